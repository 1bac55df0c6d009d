/- Contracts of the peers' methods: New, Take, Tick, Ask, Got, Asked. -/
import Derived.Test.YtobkpglenpoacaaProg
import Derived.Test.YtobkpglenpoacaaMaps
import Derived.Test.YtobkpglenpoacaaWWords
import Derived.WalkLawsBesides
import Derived.WalkSpells
import Derived.Maps.OwnSet
import Derived.Lib.Hide
import Derived.StringKeys
import Derived.Sort.MapsRangeIn
import Derived.StillTailTactics
namespace Go.Proofs.YtobkpglenpoacaaP
open Go.RowKit Go.Maps Go.Proofs.YtobkpglenpoacaaM Go.Proofs.YtobkpglenpoacaaW.PrintWords

def ekI (x : Int) : Lit := .int .i64 x
def ekS (s : ByteArray) : Lit := .string s.data.toList
abbrev evI (x : Int) : Value := .int .i64 x
theorem ekI_inj (x y : Int) (h : ekI x = ekI y) : x = y := by unfold ekI at h; injection h
theorem ekS_inj (x y : ByteArray) (h : ekS x = ekS y) : x = y := by
  unfold ekS at h
  injection h with h
  cases x; cases y
  congr 1
  exact Array.toList_inj.1 h
theorem ekI_key (x : Int) : WideAt.IsKeyLit (ekI x) := trivial
theorem ekS_key (x : ByteArray) : WideAt.IsKeyLit (ekS x) := trivial

theorem lawI : Keyed Try.prog 3 := int_keyed Try.underlying3
theorem lawS : Keyed Try.prog 9 := string_keyed Try.underlying9
theorem zeroI (w : World) : (zeroValue 3).run Try.prog w = .ok (.int .i64 0) w := by kernel_rfl

/-- Nothing has turned but blocks of S. -/
structure Turn (S : Nat → Prop) (w w' : World) : Prop where
  os : w'.os = w.os
  tape : w'.tape = w.tape
  output : w'.output = w.output
  size : w.heap.size ≤ w'.heap.size
  block : ∀ k, k < w.heap.size → ¬ S k → w'.heap[k]? = w.heap[k]?
theorem Turn.refl (S : Nat → Prop) (w : World) : Turn S w w := ⟨rfl, rfl, rfl, Nat.le_refl _, fun _ _ _ => rfl⟩
theorem Turn.trans {S : Nat → Prop} {a b c : World} (h : Turn S a b) (k : Turn S b c) : Turn S a c :=
  ⟨k.os.trans h.os, k.tape.trans h.tape, k.output.trans h.output, Nat.le_trans h.size k.size, fun i hi hs => (k.block i (Nat.lt_of_lt_of_le hi h.size) hs).trans (h.block i hi hs)⟩
theorem Turn.grown {S : Nat → Prop} {a w w' : World} {row : Option Nat} (h : Turn S a w) (hg : w.grownBy w' row) (hr : ∀ k, row = some k → S k) : Turn S a w' :=
  h.trans ⟨hg.os, hg.tape, hg.output, hg.size, fun i hi hs => hg.block i hi (fun e => hs (hr i e.symm))⟩
theorem Turn.alloc {S : Nat → Prop} {a w : World} (h : Turn S a w) (o : Obj) : Turn S a (w.alloc o) := h.grown (World.grownBy_alloc w o none) (by simp)
theorem Turn.setCell {S : Nat → Prop} {a w : World} (h : Turn S a w) {p : Addr} (hp : S p.block) (u : Value) : Turn S a (w.setCell p u) :=
  h.trans ⟨rfl, rfl, rfl, by simp [World.setCell], fun k _ hs => Below.heap_setCell _ _ _ _ (fun e => hs (e ▸ hp))⟩
theorem Turn.below {S : Nat → Prop} {B : Nat} {a w : World} (h : Turn S a w) (hB : B ≤ a.heap.size) (hS : ∀ k, S k → B ≤ k) : Below B a w :=
  ⟨h.os, h.tape, h.output, h.size, fun k hk => h.block k (by omega) (fun hs => by have := hS k hs; omega)⟩

/-- The peers' object: its blocks, what it holds. -/
structure IsPeers (w : World) (g bF bB bA : Nat) (fr bs : List (Int × Int)) (ask : List (ByteArray × Int)) (tick : Int) : Prop where
  cells : w.heap[g]? = some (.cells #[.map (some bF), .map (some bB), .map (some bA), .int .i64 tick] 86 (0, 0))
  mF : IsMap Try.prog 3 ekI evI w bF fr
  mB : IsMap Try.prog 3 ekI evI w bB bs
  mA : IsMap Try.prog 9 ekS evI w bA ask
  ne : bF ≠ bB ∧ bF ≠ bA ∧ bB ≠ bA
def Foot (g bF bB bA : Nat) : Nat → Prop := fun k => k = g ∨ k = bF ∨ k = bB ∨ k = bA

theorem four {w : World} {g T : Nat} {a b c d : Value} (h : w.heap[g]? = some (.cells #[a, b, c, d] T (0, 0))) :
    (w.cell? ⟨g, 0, none⟩ = some a ∧ w.cell? ⟨g, 1, none⟩ = some b ∧ w.cell? ⟨g, 2, none⟩ = some c ∧ w.cell? ⟨g, 3, none⟩ = some d) ∧ ∀ o, w.frozen? ⟨g, o, none⟩ = false := by
  refine ⟨⟨?_, ?_, ?_, ?_⟩, fun o => ?_⟩ <;> simp [World.cell?, World.frozen?, h]

theorem IsPeers.later {w w' : World} {g bF bB bA : Nat} {fr bs : List (Int × Int)} {ask : List (ByteArray × Int)} {tick : Int} (h : IsPeers w g bF bB bA fr bs ask tick) (hk : ∀ k, k < w.heap.size → Foot g bF bB bA k → w'.heap[k]? = w.heap[k]?) : IsPeers w' g bF bB bA fr bs ask tick :=
  ⟨(hk g (blk_lt h.cells) (.inl rfl)).trans h.cells, h.mF.heap (hk bF h.mF.lt (.inr (.inl rfl))), h.mB.heap (hk bB h.mB.lt (.inr (.inr (.inl rfl)))), h.mA.heap (hk bA h.mA.lt (.inr (.inr (.inr rfl)))), h.ne⟩

/-- The count at a key. -/
def at0 (l : List (Int × Int)) (x : Int) : Int := (get l x).getD 0
theorem valAt_at0 (l : List (Int × Int)) (x : Int) : valAt evI (.int .i64 0) (get l x) = .int .i64 (at0 l x) := by
  unfold at0; cases get l x <;> rfl

section
variable {w : World} {g bF bB bA : Nat} {fr bs : List (Int × Int)} {ask : List (ByteArray × Int)} {tick : Int}

theorem take_mid {w1 : World} {fr' : List (Int × Int)} {who b : Int} (h : IsPeers w g bF bB bA fr bs ask tick) (hm : IsMap Try.prog 3 ekI evI w1 bF fr') (hg : w.grownBy w1 (some bF))
    (hkey : keyOf Try.prog 3 (.int .i64 who) = some (ekI who)) (hb : at0 bs who = b) :
    Hid (IsPeers w1 g bF bB bA fr' bs ask tick ∧ Turn (Foot g bF bB bA) w w1) ∧ w1.cell? ⟨g, 0, none⟩ = some (.map (some bF)) ∧ w1.cell? ⟨g, 1, none⟩ = some (.map (some bB)) ∧
      (Instr.lookup 38 (.map (some bB)) (.int .i64 who) false).run Try.prog w1 = .ok (.int .i64 b) w1 := by
  have hne : g ≠ bF := fun e => h.mF.ne_cells h.cells e.symm
  have h1 : IsPeers w1 g bF bB bA fr' bs ask tick := ⟨blk_grown h.cells hg (fun e => hne (by cases e; rfl)), hm, h.mB.kept hg (fun e => h.ne.1 (by cases e; rfl)), h.mA.kept hg (fun e => h.ne.2.1 (by cases e; rfl)), h.ne⟩
  obtain ⟨⟨c0, c1, _, _⟩, _⟩ := four h1.cells
  have l2 := h1.mB.run_lookup lawI (t := 38) Try.underlying38 (zeroI w1) who hkey
  rw [valAt_at0, hb] at l2
  exact ⟨⟨h1, (Turn.refl _ _).grown hg (fun k e => by cases e; exact .inr (.inl rfl))⟩, c0, c1, l2⟩
theorem take_end {w1 : World} {bs' : List (Int × Int)} (h : IsPeers w g bF bB bA fr bs ask tick) (hm : IsMap Try.prog 3 ekI evI w1 bB bs') (hg : w.grownBy w1 (some bB)) : IsPeers w1 g bF bB bA fr bs' ask tick := by
  have hne : g ≠ bB := fun e => h.mB.ne_cells h.cells e.symm
  exact ⟨blk_grown h.cells hg (fun e => hne (by cases e; rfl)), h.mF.kept hg (fun e => h.ne.1 (by cases e; rfl)), hm, h.mA.kept hg (fun e => h.ne.2.2 (by cases e; rfl)), h.ne⟩

theorem ask_end {w1 : World} {ask' : List (ByteArray × Int)} (h : IsPeers w g bF bB bA fr bs ask tick) (hm : IsMap Try.prog 9 ekS evI w1 bA ask') (hg : w.grownBy w1 (some bA)) : IsPeers w1 g bF bB bA fr bs ask' tick := by
  have hne : g ≠ bA := fun e => h.mA.ne_cells h.cells e.symm
  exact ⟨blk_grown h.cells hg (fun e => hne (by cases e; rfl)), h.mF.kept hg (fun e => h.ne.2.1 (by cases e; rfl)), h.mB.kept hg (fun e => h.ne.2.2 (by cases e; rfl)), hm, h.ne⟩

theorem tick_one {w1 : World} (h : IsPeers w g bF bB bA fr bs ask tick) (hm : IsMap Try.prog 3 ekI evI w1 bF []) (hg : (w.setCell ⟨g, 3, none⟩ (.int .i64 (tick + 1))).grownBy w1 (some bF)) :
    Hid (IsPeers w1 g bF bB bA [] bs ask (tick + 1) ∧ Turn (Foot g bF bB bA) w w1) ∧ w1.cell? ⟨g, 1, none⟩ = some (.map (some bB)) := by
  have hne : g ≠ bF := fun e => h.mF.ne_cells h.cells e.symm
  have hc := blk_set h.cells 3 (.int .i64 (tick + 1))
  have h1 : IsPeers w1 g bF bB bA [] bs ask (tick + 1) := ⟨blk_grown hc hg (fun e => hne (by cases e; rfl)), hm, (h.mB.set (a := ⟨g, 3, none⟩) (h.mB.ne_cells h.cells) _).kept hg (fun e => h.ne.1 (by cases e; rfl)), (h.mA.set (a := ⟨g, 3, none⟩) (h.mA.ne_cells h.cells) _).kept hg (fun e => h.ne.2.1 (by cases e; rfl)), h.ne⟩
  exact ⟨⟨h1, ((Turn.refl _ _).setCell (p := ⟨g, 3, none⟩) (.inl rfl) _).grown hg (fun k e => by cases e; exact .inr (.inl rfl))⟩, (four h1.cells).1.2.1⟩
theorem tick_two {w1 w2 : World} (h : IsPeers w1 g bF bB bA fr bs ask tick) (hT : Turn (Foot g bF bB bA) w w1) (hm : IsMap Try.prog 3 ekI evI w2 bB []) (hg : w1.grownBy w2 (some bB)) :
    Hid (IsPeers w2 g bF bB bA fr [] ask tick ∧ Turn (Foot g bF bB bA) w w2) ∧ w2.cell? ⟨g, 2, none⟩ = some (.map (some bA)) := by
  have h1 := take_end h hm hg
  exact ⟨⟨h1, hT.grown hg (fun k e => by cases e; exact .inr (.inr (.inl rfl)))⟩, (four h1.cells).1.2.2.1⟩

set_option maxRecDepth 100000 in
theorem take_yes (h : IsPeers w g bF bB bA fr bs ask tick) (who n : Int) (hwho : (Lit.int .i64 who).wf = true) (h0 : 0 ≤ n) (hc : 0 ≤ at0 fr who) (hc2 : at0 fr who < 16) (hb : 0 ≤ at0 bs who) (hb2 : n ≤ 131072 - at0 bs who) (hlf : fr.length ≤ 1000000) (hlb : bs.length ≤ 1000000) :
    Calls Try.prog 20 #[.pointer (some ⟨g, 0, none⟩), .int .i64 who, .int .i64 n] w fun e w' => e = .returned (.bool true) ∧ IsPeers w' g bF bB bA (setL fr who (at0 fr who + 1)) (setL bs who (at0 bs who + n)) ask tick ∧ Turn (Foot g bF bB bA) w w' := by
  obtain ⟨⟨c0, c1, c2, c3⟩, f0⟩ := four h.cells
  have hkey : keyOf Try.prog 3 (.int .i64 who) = some (ekI who) := keyOf_int_mk Try.underlying3 hwho
  have l1 := h.mF.run_lookup lawI (t := 38) Try.underlying38 (zeroI w) who hkey
  have l2 := h.mB.run_lookup lawI (t := 38) Try.underlying38 (zeroI w) who hkey
  rw [valAt_at0] at l1 l2
  generalize hcv : at0 fr who = c at *
  generalize hbv : at0 bs who = b at *
  have HC := Lib.hid hcv
  have HB := Lib.hid hbv
  clear hcv hbv
  have H := Lib.hid h
  clear h
  have t1 : decide (n < 0) = false := decide_eq_false (by omega)
  have t2 : decide (16 ≤ c) = false := decide_eq_false (by omega)
  have t3 : decide (131072 - b < n) = false := decide_eq_false (by omega)
  go_enter Try.func20, Try.ntmps20
  go_wp2_with (first
    | (at_mapUpdate; refine wpList_store_is _ rfl _ _ _ 38 rfl lawI Try.underlying38 rfl H.out.mF (by unfold maxLen; omega) ekI_inj ekI_key who (c + 1) hkey rfl ?_; intro w1 hm1 hg1; obtain ⟨H1, d0, d1, l3⟩ := take_mid H.out hm1 hg1 hkey HB.out; clear hm1 hg1)
    | (at_mapUpdate; refine wpList_store_is _ rfl _ _ _ 38 rfl lawI Try.underlying38 rfl H1.out.1.mB (by unfold maxLen; omega) ekI_inj ekI_key who (b + n) hkey rfl ?_; intro w2 hm2 hg2; have H2 := Lib.hid (And.intro hm2 hg2); clear hm2 hg2)
    | go_in)
  go_ret
  exact ⟨rfl, take_end H1.out.1 H2.out.1 H2.out.2, (H1.out.2).grown H2.out.2 (fun k e => by cases e; exact .inr (.inr (.inl rfl)))⟩

set_option maxRecDepth 100000 in
theorem take_neg (g : Nat) (w : World) (who n : Int) (h0 : n < 0) :
    Calls Try.prog 20 #[.pointer (some ⟨g, 0, none⟩), .int .i64 who, .int .i64 n] w fun e w' => e = .returned (.bool false) ∧ w = w' := by
  have t1 : decide (n < 0) = true := decide_eq_true h0
  go_enter Try.func20, Try.ntmps20
  go_wp2
  go_ret
  exact ⟨rfl, rfl⟩
set_option maxRecDepth 100000 in
theorem take_full (h : IsPeers w g bF bB bA fr bs ask tick) (who n : Int) (hwho : (Lit.int .i64 who).wf = true) (h0 : 0 ≤ n) (hc2 : 16 ≤ at0 fr who) :
    Calls Try.prog 20 #[.pointer (some ⟨g, 0, none⟩), .int .i64 who, .int .i64 n] w fun e w' => e = .returned (.bool false) ∧ w = w' := by
  obtain ⟨⟨c0, c1, c2, c3⟩, f0⟩ := four h.cells
  have hkey : keyOf Try.prog 3 (.int .i64 who) = some (ekI who) := keyOf_int_mk Try.underlying3 hwho
  have l1 := h.mF.run_lookup lawI (t := 38) Try.underlying38 (zeroI w) who hkey
  rw [valAt_at0] at l1
  generalize hcv : at0 fr who = c at *
  clear hcv h
  have t1 : decide (n < 0) = false := decide_eq_false (by omega)
  have t2 : decide (16 ≤ c) = true := decide_eq_true hc2
  go_enter Try.func20, Try.ntmps20
  go_wp2
  go_ret
  exact ⟨rfl, rfl⟩
set_option maxRecDepth 100000 in
theorem take_much (h : IsPeers w g bF bB bA fr bs ask tick) (who n : Int) (hwho : (Lit.int .i64 who).wf = true) (h0 : 0 ≤ n) (hc2 : at0 fr who < 16) (hb : 0 ≤ at0 bs who) (hb1 : at0 bs who ≤ 131072) (hb2 : 131072 - at0 bs who < n) :
    Calls Try.prog 20 #[.pointer (some ⟨g, 0, none⟩), .int .i64 who, .int .i64 n] w fun e w' => e = .returned (.bool false) ∧ w = w' := by
  obtain ⟨⟨c0, c1, c2, c3⟩, f0⟩ := four h.cells
  have hkey : keyOf Try.prog 3 (.int .i64 who) = some (ekI who) := keyOf_int_mk Try.underlying3 hwho
  have l1 := h.mF.run_lookup lawI (t := 38) Try.underlying38 (zeroI w) who hkey
  have l2 := h.mB.run_lookup lawI (t := 38) Try.underlying38 (zeroI w) who hkey
  rw [valAt_at0] at l1 l2
  generalize hcv : at0 fr who = c at *
  generalize hbv : at0 bs who = b at *
  clear hcv hbv h
  have t1 : decide (n < 0) = false := decide_eq_false (by omega)
  have t2 : decide (16 ≤ c) = false := decide_eq_false (by omega)
  have t3 : decide (131072 - b < n) = true := decide_eq_true hb2
  go_enter Try.func20, Try.ntmps20
  go_wp2
  go_ret
  exact ⟨rfl, rfl⟩

theorem new_any (w : World) : Calls Try.prog 18 #[] w fun e w' => e = .returned (.pointer (some ⟨w.heap.size + 3, 0, none⟩)) ∧
    IsPeers w' (w.heap.size + 3) w.heap.size (w.heap.size + 1) (w.heap.size + 2) [] [] [] 0 ∧ Turn (fun _ => False) w w' := by
  have hmm := @run_makeMap Try.prog
  go_enter Try.func18, Try.ntmps18
  go_wp2
  go_ret
  have hm1 : IsMap Try.prog 3 ekI evI (w.alloc (.map #[] 0)) w.heap.size [] := IsMap.new w _ _
  have hm2 : IsMap Try.prog 3 ekI evI ((w.alloc (.map #[] 0)).alloc (.map #[] 0)) (w.heap.size + 1) [] := by have := IsMap.new (ek := ekI) (ev := evI) (w.alloc (.map #[] 0)) Try.prog 3; simpa using this
  have hm3 : IsMap Try.prog 9 ekS evI (((w.alloc (.map #[] 0)).alloc (.map #[] 0)).alloc (.map #[] 0)) (w.heap.size + 2) [] := by have := IsMap.new (ek := ekS) (ev := evI) ((w.alloc (.map #[] 0)).alloc (.map #[] 0)) Try.prog 9; simpa using this
  refine ⟨rfl, ⟨?_, ((hm1.alloc _).alloc _).alloc _, (hm2.alloc _).alloc _, hm3.alloc _, by omega, by omega, by omega⟩, (((Turn.refl _ _).alloc _).alloc _).alloc _ |>.alloc _⟩
  have := heap_alloc_new (((w.alloc (.map #[] 0)).alloc (.map #[] 0)).alloc (.map #[] 0)) (.cells #[.map (some w.heap.size), .map (some (w.heap.size + 1)), .map (some (w.heap.size + 2)), .int .i64 0] 86)
  simpa using this

set_option maxRecDepth 100000 in
theorem asked_any (h : IsPeers w g bF bB bA fr bs ask tick) : Calls Try.prog 26 #[.pointer (some ⟨g, 0, none⟩)] w fun e w' => e = .returned (.int .i64 ask.length) ∧ w = w' := by
  obtain ⟨⟨c0, c1, c2, c3⟩, f0⟩ := four h.cells
  have hl := fun ty => h.mA.run_len (t := 84) Try.underlying84 ty
  clear h
  go_enter Try.func26, Try.ntmps26
  go_wp2
  go_ret
  exact ⟨rfl, rfl⟩

set_option maxRecDepth 100000 in
theorem ask_no (h : IsPeers w g bF bB bA fr bs ask tick) (s : ByteArray) (hs : s.size ≤ maxLen) (hget : (get ask s).isSome = true) :
    Calls Try.prog 22 #[.pointer (some ⟨g, 0, none⟩), .string s] w fun e w' => e = .returned (.bool false) ∧ IsPeers w' g bF bB bA fr bs ask tick ∧ Turn (Foot g bF bB bA) w w' := by
  obtain ⟨⟨c0, c1, c2, c3⟩, f0⟩ := four h.cells
  have hkey : keyOf Try.prog 9 (.string s) = some (ekS s) := WideMaps.keyOf_string_mk Try.underlying9 hs
  have l1 := h.mA.run_lookup_ok lawS (t := 84) Try.underlying84 (zeroI w) s hkey
  rw [hget] at l1
  obtain ⟨v, hv⟩ : ∃ v : Int, valAt evI (.int .i64 0) (get ask s) = .int .i64 v := by cases get ask s <;> exact ⟨_, rfl⟩
  rw [hv] at l1
  have H := Lib.hid h
  clear h hv
  go_enter Try.func22, Try.ntmps22
  go_wp2
  go_ret
  exact ⟨rfl, H.out, Turn.refl _ _⟩

set_option maxRecDepth 100000 in
theorem got_any (h : IsPeers w g bF bB bA fr bs ask tick) (s : ByteArray) (hs : s.size ≤ maxLen) :
    Calls Try.prog 23 #[.pointer (some ⟨g, 0, none⟩), .string s] w fun e w' => e = .returned (.tuple #[]) ∧ IsPeers w' g bF bB bA fr bs (delL ask s) tick ∧ Turn (Foot g bF bB bA) w w' := by
  obtain ⟨⟨c0, c1, c2, c3⟩, f0⟩ := four h.cells
  have hkey : keyOf Try.prog 9 (.string s) = some (ekS s) := WideMaps.keyOf_string_mk Try.underlying9 hs
  have H := Lib.hid h
  clear h
  go_enter Try.func23, Try.ntmps23
  go_wp2_with (first
    | (at_delete; refine wpList_delete_is _ rfl _ _ 84 rfl lawS Try.underlying84 rfl H.out.mA ekS_inj s hkey ?_; intro w1 hm1 hg1; have H1 := Lib.hid (And.intro hm1 hg1); clear hm1 hg1)
    | go_in)
  go_end0
  exact ⟨rfl, ask_end H.out H1.out.1 H1.out.2, (Turn.refl _ _).grown H1.out.2 (fun k e => by cases e; exact .inr (.inr (.inr rfl)))⟩

set_option maxRecDepth 100000 in
theorem ask_yes (h : IsPeers w g bF bB bA fr bs ask tick) (s : ByteArray) (hs : s.size ≤ maxLen) (hget : get ask s = none) (hl : ask.length ≤ 1000000) :
    Calls Try.prog 22 #[.pointer (some ⟨g, 0, none⟩), .string s] w fun e w' => e = .returned (.bool true) ∧ IsPeers w' g bF bB bA fr bs (ask ++ [(s, tick)]) tick ∧ Turn (Foot g bF bB bA) w w' := by
  obtain ⟨⟨c0, c1, c2, c3⟩, f0⟩ := four h.cells
  have hkey : keyOf Try.prog 9 (.string s) = some (ekS s) := WideMaps.keyOf_string_mk Try.underlying9 hs
  have l1 := h.mA.run_lookup_ok lawS (t := 84) Try.underlying84 (zeroI w) s hkey
  rw [hget] at l1
  simp only [valAt, Option.isSome_none] at l1
  have H := Lib.hid h
  have HG := Lib.hid hget
  clear h hget
  go_enter Try.func22, Try.ntmps22
  go_wp2
  go_still_tail 9, (by kernel_rfl)
  refine wpList_store_is _ rfl _ _ _ 84 rfl lawS Try.underlying84 rfl (H.out.mA.heap (w' := _) rfl) (by unfold maxLen; omega) ekS_inj ekS_key s tick hkey rfl ?_
  intro w1 hm1 hg1
  have H1 := Lib.hid (And.intro hm1 hg1)
  clear hm1 hg1
  go_wp2
  go_ret
  have hg := H1.out.2
  have hg' : w.grownBy w1 (some bA) := ⟨hg.os, hg.tape, hg.output, hg.size, hg.block⟩
  have hm := H1.out.1
  rw [setL_new HG.out] at hm
  exact ⟨rfl, ask_end H.out hm hg', (Turn.refl _ _).grown hg' (fun k e => by cases e; exact .inr (.inr (.inr rfl)))⟩

theorem keyS (key : Value) (kl : Lit) (h : keyOf Try.prog 9 key = some kl) : ∃ x : ByteArray, key = .string x ∧ kl = ekS x := by
  obtain ⟨s, rfl⟩ := keyOf_string_inv Try.underlying9 h
  refine ⟨s, rfl, ?_⟩
  simp [keyOf, mapKey, Try.underlying9] at h
  first | exact h.symm | exact h.2.symm

/-- What is left of what was asked for, behind a tick. -/
def stale (tick : Int) (p : ByteArray × Int) : Bool := decide (tick - p.2 < 6)

theorem same_str (x y : ByteArray) : (ekS y).sameKey (ekS x) = decide (y = x) := by
  by_cases h : y = x
  · subst h; rw [decide_eq_true rfl]; unfold ekS; simp [Lit.sameKey]
  · rw [decide_eq_false h]; exact Maps.sameKey_ne (fun e => h (ekS_inj _ _ e))
theorem left_stay (ask : List (ByteArray × Int)) (st : ByteArray × Int → Bool) (left : Lit → Bool) (hn : (ask.map (·.1)).Nodup) (x : ByteArray) (v : Int) (hx : get ask x = some v) (hs : st (x, v) = true) :
    ask.filter (fun p => st p || left (ekS p.1)) = ask.filter (fun p => st p || (left (ekS p.1) && !(ekS p.1).sameKey (ekS x))) := by
  refine List.filter_congr fun p hp => ?_
  rw [same_str]
  by_cases h : p.1 = x
  · have h1 := get_of_mem hn hp
    rw [h, hx] at h1
    have h2 : p = (x, v) := by rw [← h]; cases p; simp at h1 ⊢; exact h1.symm
    rw [h2, hs]; rfl
  · simp [h]
theorem left_strike (ask : List (ByteArray × Int)) (st : ByteArray × Int → Bool) (left : Lit → Bool) (hn : (ask.map (·.1)).Nodup) (x : ByteArray) (v : Int) (hx : get ask x = some v) (hs : st (x, v) = false) :
    delL (ask.filter (fun p => st p || left (ekS p.1))) x = ask.filter (fun p => st p || (left (ekS p.1) && !(ekS p.1).sameKey (ekS x))) := by
  unfold delL
  rw [List.filter_filter]
  refine List.filter_congr fun p hp => ?_
  rw [same_str]
  by_cases h : p.1 = x
  · have h1 := get_of_mem hn hp
    rw [h, hx] at h1
    have h2 : p = (x, v) := by rw [← h]; cases p; simp at h1 ⊢; exact h1.symm
    rw [h2, hs]; simp
  · simp [h]

set_option maxRecDepth 100000 in
theorem tick_any (h : IsPeers w g bF bB bA fr bs ask tick) (ht : 0 ≤ tick) (ht2 : tick ≤ 1000000) (ha : ∀ p ∈ ask, 0 ≤ p.2 ∧ p.2 ≤ tick) :
    Calls Try.prog 25 #[.pointer (some ⟨g, 0, none⟩)] w fun e w' => e = .returned (.tuple #[]) ∧ IsPeers w' g bF bB bA [] [] (ask.filter (stale (tick + 1))) (tick + 1) ∧ Turn (Foot g bF bB bA) w w' := by
  obtain ⟨⟨c0, c1, c2, c3⟩, f0⟩ := four h.cells
  have H := Lib.hid h
  have HA := Lib.hid ha
  clear h ha
  go_enter Try.func25, Try.ntmps25
  go_wp2_with (first
    | (refine wpList_clear_is _ rfl (.tmp 16) 38 rfl Try.underlying38 rfl (H.out.mF.set (a := ⟨g, 3, none⟩) (H.out.mF.ne_cells H.out.cells) (.int .i64 (tick + 1))) ?_; intro w1 hm1 hg1; obtain ⟨H1, d1⟩ := tick_one H.out hm1 hg1; clear hm1 hg1)
    | (refine wpList_clear_is _ rfl (.tmp 20) 38 rfl Try.underlying38 rfl H1.out.1.mB ?_; intro w2 hm2 hg2; obtain ⟨H2, d2⟩ := tick_two H1.out.1 H1.out.2 hm2 hg2; clear hm2 hg2)
    | (at_range; refine wpList_range_is _ rfl _ 84 rfl lawS Try.underlying84 rfl H2.out.1.mA ?_; intro w3 left hr3 hl3 hg3 hs3; have H3 := Lib.hid (And.intro hr3 (And.intro hl3 (And.intro hg3 hs3))); clear hr3 hl3 hg3 hs3)
    | go_in)
  obtain ⟨r, hr⟩ : ∃ r, r = w2.heap.size := ⟨_, rfl⟩
  rw [← hr] at H3 ⊢
  have HR : Hid (w.heap.size ≤ r ∧ r < w3.heap.size ∧ IsPeers w3 g bF bB bA [] [] ask (tick + 1) ∧ Turn (Foot g bF bB bA) w w3) := by
    obtain ⟨a1, a2, a3, a4⟩ := H3.out
    have := H2.out.2.size
    exact ⟨by omega, by omega, (H2.out.1).later (fun k hk _ => a3.block k hk (by simp)), (H2.out.2).grown a3 (fun k e => by cases e)⟩
  clear hr
  go_frame
  go_loopw [2, 3] (fun _ _ wr => ∃ (left : Lit → Bool), Hid (IsRange Try.prog 9 ekS evI wr bA r (ask.filter (fun p => stale (tick + 1) p || left (ekS p.1))) left ∧ r < wr.heap.size ∧ IsPeers wr g bF bB bA [] [] (ask.filter (fun p => stale (tick + 1) p || left (ekS p.1))) (tick + 1) ∧ Turn (Foot g bF bB bA) w wr))
    (fun _ _ wr => wr.rangeLeft bA r)
  case atStart =>
    refine ⟨left, ?_⟩
    obtain ⟨a1, a2, a3, a4⟩ := H3.out
    obtain ⟨b1, b2, b3, b4⟩ := HR.out
    have e : ask.filter (fun p => stale (tick + 1) p || left (ekS p.1)) = ask := List.filter_eq_self.2 fun p hp => by
      rw [a2, get_of_mem H.out.mA.nodup hp]; simp
    rw [e]
    exact ⟨a1, b2, b3, b4⟩
  case round =>
    obtain ⟨left, hrel⟩ := hrel
    have HL := hrel
    clear hrel
    go_wp2_with (first
      | (at_next; refine wpList_next_is _ rfl _ rfl lawS Value.string keyS rfl HL.out.1 ?_ ?_)
      | go_in)
    · intro hd
      go_wp2
      go_end0
      obtain ⟨a1, a2, a3, a4⟩ := HL.out
      have e : ask.filter (fun p => stale (tick + 1) p || left (ekS p.1)) = ask.filter (stale (tick + 1)) := List.filter_congr fun p hp => by rw [hd]; simp
      rw [e] at a3
      exact ⟨rfl, a3, a4⟩
    · intro x v w4 hget hleft hkey hR hlt hg4 hs4 hen
      have hgA : get ask x = some v := by
        rw [get_filter _ _ H.out.mA.nodup] at hget
        cases hq : get ask x with
        | none => rw [hq] at hget; cases hget
        | some u =>
          rw [hq, Option.bind_some] at hget
          split at hget
          · exact hget
          · cases hget
      have hbv := HA.out (x, v) (get_mem hgA)
      have hv0 : 0 ≤ v := hbv.1
      have hv1 : v ≤ tick := hbv.2
      have hfoot : ∀ k, Foot g bF bB bA k → k ≠ r := fun k hk => by
        have h1 := blk_lt H.out.cells
        have h2 := H.out.mF.lt
        have h3 := H.out.mB.lt
        have h4 := H.out.mA.lt
        have h5 := HR.out.1
        rcases hk with rfl | rfl | rfl | rfl <;> omega
      have HP4 : Hid (IsPeers w4 g bF bB bA [] [] (ask.filter (fun p => stale (tick + 1) p || left (ekS p.1))) (tick + 1) ∧ Turn (Foot g bF bB bA) w w4) := by
        obtain ⟨a1, a2, a3, a4⟩ := HL.out
        refine ⟨a3.later (fun k hk hf => hg4.block k hk (fun e => hfoot k hf (by cases e; rfl))), ?_⟩
        have h5 := HR.out.1
        exact ⟨hg4.os.trans a4.os, hg4.tape.trans a4.tape, hg4.output.trans a4.output, Nat.le_trans a4.size hg4.size, fun k hk hn => (hg4.block k (Nat.lt_of_lt_of_le hk a4.size) (fun e => by cases e; omega)).trans (a4.block k hk hn)⟩
      have HX : Hid (get ask x = some v ∧ bA ≠ r ∧ r < w4.heap.size) := ⟨hgA, hfoot bA (.inr (.inr (.inr rfl))), by rw [hs4]; exact HL.out.2.1⟩
      have HR4 : Hid (IsRange Try.prog 9 ekS evI w4 bA r (ask.filter (fun p => stale (tick + 1) p || left (ekS p.1))) (fun z => left z && !z.sameKey (ekS x)) ∧ w4.rangeLeft bA r < wr.rangeLeft bA r) := ⟨hR, hlt⟩
      obtain ⟨⟨e0, e1, e2, e3⟩, f4⟩ := four HP4.out.1.cells
      clear hget hleft hR hlt hg4 hs4 hgA hbv hfoot
      by_cases hs : tick + 1 - v < 6
      · have hd : decide (6 ≤ tick + 1 - v) = false := decide_eq_false (by omega)
        have hst : stale (tick + 1) (x, v) = true := decide_eq_true hs
        have HS := Lib.hid hst
        clear hst hs
        go_wp2
        go_roundw
        case rel =>
          refine ⟨fun z => left z && !z.sameKey (ekS x), ?_⟩
          rw [left_stay ask _ left H.out.mA.nodup x v HX.out.1 HS.out] at HR4 HP4
          exact ⟨HR4.out.1, HX.out.2.2, HP4.out.1, HP4.out.2⟩
        case measure => exact HR4.out.2
      · have hd : decide (6 ≤ tick + 1 - v) = true := decide_eq_true (by omega)
        have hst : stale (tick + 1) (x, v) = false := decide_eq_false hs
        have HS := Lib.hid hst
        clear hst hs
        go_wp2_with (first
          | (at_delete; refine wpList_delete_range_is _ rfl _ _ 84 rfl lawS Try.underlying84 rfl HR4.out.1 ekS_inj x hkey ?_; intro w5 hR5 hle5 hg5; have H5 := Lib.hid (And.intro hR5 (And.intro hle5 hg5)); clear hR5 hle5 hg5; go_frame)
          | go_in)
        go_roundw
        case rel =>
          refine ⟨fun z => left z && !z.sameKey (ekS x), ?_⟩
          obtain ⟨a1, a2, a3⟩ := H5.out
          rw [strike_twice] at a1
          rw [left_strike ask _ left H.out.mA.nodup x v HX.out.1 HS.out] at a1
          exact ⟨a1, Nat.lt_of_lt_of_le HX.out.2.2 a3.size, ask_end HP4.out.1 a1.isMap a3, (HP4.out.2).grown a3 (fun k e => by cases e; exact .inr (.inr (.inr rfl)))⟩
        case measure => exact Nat.lt_of_le_of_lt H5.out.2.1 HR4.out.2
end
end Go.Proofs.YtobkpglenpoacaaP
