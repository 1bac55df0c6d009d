/- image.Same over one file each, and over one and none. Conditions: the files lie in the world. -/
import Derived.Test.YtdhpolneplbhjaaGreatDoorImgCmp
namespace Go.Proofs.YtdhpolneplbhjaaGreatDoorG
open Go Go.RowKit Go.Proofs.YtdhpolneplbhjaaGreatDoorW.PrintWords Go.Proofs.YtdhpolneplbhjaaGreatDoorW.PrintMore
set_option linter.unusedVariables false
set_option linter.unusedSimpArgs false
/-- A file's cells. -/
def fcs (p : ByteArray) (d : Bool) (i : Int) (g : ByteArray) (n : Int) : Array Value := #[.string p, .bool d, .int .u64 i, .string g, .int .i64 n]
def sameF (p : ByteArray) (d : Bool) (g : ByteArray) (p' : ByteArray) (d' : Bool) (g' : ByteArray) : Bool := (p.toList == p'.toList) && (d == d') && (g.toList == g'.toList)
set_option maxHeartbeats 2000000 in
set_option maxRecDepth 100000 in
theorem one_same (p : ByteArray) (d : Bool) (i : Int) (g : ByteArray) (n : Int) (p' : ByteArray) (d' : Bool) (i' : Int) (g' : ByteArray) (n' : Int) (w : World) :
    Calls Tryz.prog 15 #[.agg (fcs p d i g n), .agg (fcs p' d' i' g' n')] w fun e w' => e = .returned (.bool (sameF p d g p' d' g')) ∧ Below w.heap.size w w' := by
  have HB : Hid2 (∀ x y, Below w.heap.size w ((w.alloc x).alloc y)) := fun x y => ((Below.refl _ _).alloc (Nat.le_refl _) _).alloc (by simp) _
  unfold fcs
  by_cases h1 : (p.toList == p'.toList) = true
  · by_cases h2 : (d == d') = true
    · have hs : Hid2 (sameF p d g p' d' g' = (g.toList == g'.toList)) := by unfold Hid2 sameF; rw [h1, h2]; rfl
      go_enter Tryz.func15, Tryz.ntmps15
      go_wp2
      go_ret
      exact ⟨by rw [hs.out]; rfl, HB.out _ _⟩
    · have h2 : (d == d') = false := by simpa using h2
      have hs : Hid2 (sameF p d g p' d' g' = false) := by unfold Hid2 sameF; rw [h1, h2]; rfl
      go_enter Tryz.func15, Tryz.ntmps15
      go_wp2
      go_ret
      exact ⟨by rw [hs.out]; rfl, HB.out _ _⟩
  · have h1 : (p.toList == p'.toList) = false := by simpa using h1
    have hs : Hid2 (sameF p d g p' d' g' = false) := by unfold Hid2 sameF; rw [h1]; rfl
    go_enter Tryz.func15, Tryz.ntmps15
    go_wp2
    go_ret
    exact ⟨by rw [hs.out]; rfl, HB.out _ _⟩
set_option maxHeartbeats 4000000 in
set_option maxRecDepth 100000 in
theorem equal_one (b1 c1 b2 c2 : Nat) (p : ByteArray) (d : Bool) (i : Int) (g : ByteArray) (n : Int) (p' : ByteArray) (d' : Bool) (i' : Int) (g' : ByteArray) (n' : Int) (w : World)
    (x0 : w.cell? ⟨b1, 0, none⟩ = some (.string p)) (x1 : w.cell? ⟨b1, 1, none⟩ = some (.bool d)) (x2 : w.cell? ⟨b1, 2, none⟩ = some (.int .u64 i)) (x3 : w.cell? ⟨b1, 3, none⟩ = some (.string g)) (x4 : w.cell? ⟨b1, 4, none⟩ = some (.int .i64 n))
    (y0 : w.cell? ⟨b2, 0, none⟩ = some (.string p')) (y1 : w.cell? ⟨b2, 1, none⟩ = some (.bool d')) (y2 : w.cell? ⟨b2, 2, none⟩ = some (.int .u64 i')) (y3 : w.cell? ⟨b2, 3, none⟩ = some (.string g')) (y4 : w.cell? ⟨b2, 4, none⟩ = some (.int .i64 n')) (hb1 : b1 < w.heap.size) (hb2 : b2 < w.heap.size) :
    Calls Tryz.prog 14 #[.slice (some ⟨b1, 0, none⟩) 1 c1, .slice (some ⟨b2, 0, none⟩) 1 c2, .func (.func 15) #[] #[]] w fun e w' => e = .returned (.bool (sameF p d g p' d' g')) ∧ Below w.heap.size w w' := by
  go_enter Tryz.func14, Tryz.ntmps14
  go_wp2
  go_loopw [17] (fun k wr => (k = .int .i64 0 ∧ w = wr) ∨ (k = .int .i64 1 ∧ Hid2 (sameF p d g p' d' g' = true) ∧ Hid2 (Below w.heap.size w wr))) (fun k _ => 2 - (intOf k).toNat)
  case atStart => exact .inl ⟨rfl, rfl⟩
  case round =>
    rcases hrel with ⟨rfl, rfl⟩ | ⟨rfl, hs, hb⟩
    · go_wp2_with fail
      refine (one_same p d i g n p' d' i' g' n' _).mono ?_
      rintro e w1 ⟨rfl, hb⟩
      have HB : Hid2 (Below w.heap.size w w1) := ((Below.refl _ _).alloc (Nat.le_refl _) _ |>.alloc (by simp) _).trans (hb.mono (by simp; omega))
      clear hb
      cases hs : sameF p d g p' d' g' with
      | true =>
        have HS : Hid2 (sameF p d g p' d' g' = true) := hs
        clear hs
        go_wp2
        go_roundw
        case rel => exact .inr ⟨by go_num, HS, HB⟩
        case measure => simp [intOf]
      | false =>
        have HS : Hid2 (sameF p d g p' d' g' = false) := hs
        clear hs
        go_wp2
        go_ret
        exact ⟨by rw [HS.out]; rfl, HB.out⟩
    · go_wp2
      go_ret
      exact ⟨by rw [hs.out]; rfl, hb.out⟩
theorem equal_none (b1 c1 : Nat) (w : World) :
    Calls Tryz.prog 14 #[.slice (some ⟨b1, 0, none⟩) 1 c1, .slice none 0 0, .func (.func 15) #[] #[]] w fun e w' => e = .returned (.bool false) ∧ w = w' := by
  go_enter Tryz.func14, Tryz.ntmps14
  go_wp2
  go_ret
  exact ⟨rfl, rfl⟩
end Go.Proofs.YtdhpolneplbhjaaGreatDoorG
