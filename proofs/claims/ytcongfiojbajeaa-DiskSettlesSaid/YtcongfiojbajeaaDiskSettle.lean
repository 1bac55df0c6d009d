/- A file of the disk is settled: the walk. Conditions: the file lies in the world; it has fewer than 1000000000 bytes, all in all. -/
import Derived.Test.YtcongfiojbajeaaDiskFile
namespace Go.Proofs.YtcongfiojbajeaaK
open Go Go.RowKit Go.Proofs.YtcongfiojbajeaaM Go.Proofs.YtcongfiojbajeaaW.PrintWords
set_option linter.unusedVariables false
set_option linter.unusedSimpArgs false
/-- Nothing has turned but blocks of S. -/
structure Turn (S : Nat → Prop) (w w' : World) : Prop where
  os : w'.os = w.os
  tape : w'.tape = w.tape
  output : w'.output = w.output
  size : w.heap.size ≤ w'.heap.size
  block : ∀ k, k < w.heap.size → ¬ S k → w'.heap[k]? = w.heap[k]?
theorem Turn.refl (S : Nat → Prop) (w : World) : Turn S w w := ⟨rfl, rfl, rfl, Nat.le_refl _, fun _ _ _ => rfl⟩
theorem Turn.trans {S : Nat → Prop} {a b c : World} (h : Turn S a b) (k : Turn S b c) : Turn S a c :=
  ⟨k.os.trans h.os, k.tape.trans h.tape, k.output.trans h.output, Nat.le_trans h.size k.size, fun i hi hs => (k.block i (Nat.lt_of_lt_of_le hi h.size) hs).trans (h.block i hi hs)⟩
theorem Turn.grown {S : Nat → Prop} {a w w' : World} {row : Option Nat} (h : Turn S a w) (hg : w.grownBy w' row) (hr : ∀ k, row = some k → S k) : Turn S a w' :=
  h.trans ⟨hg.os, hg.tape, hg.output, hg.size, fun i hi hs => hg.block i hi (fun e => hs (hr i e.symm))⟩
theorem Turn.alloc {S : Nat → Prop} {a w : World} (h : Turn S a w) (o : Obj) : Turn S a (w.alloc o) := h.grown (World.grownBy_alloc w o none) (by simp)
theorem Turn.setCell {S : Nat → Prop} {a w : World} (h : Turn S a w) {p : Addr} (hp : S p.block) (u : Value) : Turn S a (w.setCell p u) :=
  h.trans ⟨rfl, rfl, rfl, by simp [World.setCell], fun k _ hs => Below.heap_setCell _ _ _ _ (fun e => hs (e ▸ hp))⟩
theorem Turn.below {S : Nat → Prop} {B : Nat} {a w : World} (h : Turn S a w) (hB : B ≤ a.heap.size) (hS : ∀ k, S k → B ≤ k) : Below B a w :=
  ⟨h.os, h.tape, h.output, h.size, fun k hk => h.block k (by omega) (fun hs => by have := hS k hs; omega)⟩
theorem Turn.of_below {S : Nat → Prop} {w w' : World} (h : Below w.heap.size w w') : Turn S w w' := ⟨h.os, h.tape, h.output, h.size, fun k hk _ => h.block k hk⟩
set_option maxHeartbeats 2000000 in
set_option maxRecDepth 100000 in
theorem settle_any (fb : Nat) (f : PF) (A : Option Addr) (c : Nat) (w : World) (hl : Lies w fb f (.slice A f.loose.length c)) (hc : Kd.C kP w A f.loose.length f.loose) (hv : f.vol ≤ 1000000000) (hn : f.loose.length ≤ 1000000000) :
    Calls Try.prog 25 #[.pointer (some ⟨fb, 0, none⟩)] w fun e w' => e = .returned (.tuple #[]) ∧ Lies w' fb f.settled (.slice none 0 0) ∧ Turn (fun k => k = fb) w w' := by
  have HN := Lib.hid (now_any fb f A c w hl hc hv hn)
  have HL := Lib.hid hl
  clear hl hc hv hn
  go_enter Try.func25, Try.ntmps25
  go_wp2_with fail
  refine HN.out.mono ?_
  rintro e w1 ⟨rfl, hb⟩
  have hl1 : Lies w1 fb f (.slice A f.loose.length c) := (hb.block fb (blk_lt HL.out)).trans HL.out
  have fz := free_in hl1
  have x0 : w1.cell? ⟨fb, 0, none⟩ = some (.string f.sure) := cell_in hl1 0
  have x1 : w1.cell? ⟨fb, 1, none⟩ = some (.bool f.there) := cell_in hl1 1
  have x2 : w1.cell? ⟨fb, 2, none⟩ = some (.slice A f.loose.length c) := cell_in hl1 2
  have HB := Lib.hid hb
  have HL1 := Lib.hid hl1
  clear hl1 hb
  go_wp2
  refine bodyPost_end (results_none rfl _ _ _) rfl ?_
  refine ⟨rfl, ?_, ?_⟩
  · exact blk_set (blk_set (blk_set HL1.out 0 _) 1 _) 2 _
  · have HT : Turn (fun k => k = fb) w w1 := Turn.of_below HB.out
    exact ((HT.setCell (p := ⟨fb, 0, none⟩) rfl _).setCell (p := ⟨fb, 1, none⟩) rfl _).setCell (p := ⟨fb, 2, none⟩) rfl _
end Go.Proofs.YtcongfiojbajeaaK
