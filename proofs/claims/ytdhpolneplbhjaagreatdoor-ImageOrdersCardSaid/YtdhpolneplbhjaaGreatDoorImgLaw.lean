/- ImageOrders, the walk: paths are ordered name by name; images are the same by paths, folders and digests: of any two files. Conditions: a library's variable as it lies. -/
import Derived.Test.YtdhpolneplbhjaaGreatDoorImgComp
import Derived.Test.YtdhpolneplbhjaaGreatDoorImgSame
import Derived.Test.YtdhpolneplbhjaaGreatDoorImgPath
import Derived.Test.YtdhpolneplbhjaaGreatDoorImgRun
import Derived.Deep.DeepCutAuto
namespace Go.Proofs.YtdhpolneplbhjaaGreatDoorG
open Go Go.RowKit Go.Proofs.YtdhpolneplbhjaaGreatDoorW.PrintWords Go.Proofs.YtdhpolneplbhjaaGreatDoorW.PrintLast Go.Proofs.YtdhpolneplbhjaaGreatDoorW.PrintMore
set_option linter.unusedVariables false
set_option linter.unusedSimpArgs false
theorem hid2 {p : Prop} (h : p) : Hid2 p := h
set_option maxHeartbeats 2000000 in
set_option maxRecDepth 100000 in
theorem same_one (b1 c1 b2 c2 : Nat) (p : ByteArray) (d : Bool) (i : Int) (g : ByteArray) (n : Int) (p' : ByteArray) (d' : Bool) (i' : Int) (g' : ByteArray) (n' : Int) (w : World)
    (x0 : w.cell? ⟨b1, 0, none⟩ = some (.string p)) (x1 : w.cell? ⟨b1, 1, none⟩ = some (.bool d)) (x2 : w.cell? ⟨b1, 2, none⟩ = some (.int .u64 i)) (x3 : w.cell? ⟨b1, 3, none⟩ = some (.string g)) (x4 : w.cell? ⟨b1, 4, none⟩ = some (.int .i64 n))
    (y0 : w.cell? ⟨b2, 0, none⟩ = some (.string p')) (y1 : w.cell? ⟨b2, 1, none⟩ = some (.bool d')) (y2 : w.cell? ⟨b2, 2, none⟩ = some (.int .u64 i')) (y3 : w.cell? ⟨b2, 3, none⟩ = some (.string g')) (y4 : w.cell? ⟨b2, 4, none⟩ = some (.int .i64 n')) (hb1 : b1 < w.heap.size) (hb2 : b2 < w.heap.size) :
    Calls Tryz.prog 7 #[.slice (some ⟨b1, 0, none⟩) 1 c1, .slice (some ⟨b2, 0, none⟩) 1 c2] w fun e w' => e = .returned (.bool (sameF p d g p' d' g')) ∧ Below w.heap.size w w' := by
  have HE := hid2 (equal_one b1 c1 b2 c2 p d i g n p' d' i' g' n' w x0 x1 x2 x3 x4 y0 y1 y2 y3 y4 hb1 hb2)
  clear x0 x1 x2 x3 x4 y0 y1 y2 y3 y4 hb1 hb2
  go_enter Tryz.func7, Tryz.ntmps7
  go_wp2_with fail
  refine HE.out.mono ?_
  rintro e w1 ⟨rfl, hb⟩
  have HB : Hid2 (Below w.heap.size w w1) := hb
  clear hb
  go_wp2
  go_ret
  exact ⟨rfl, HB.out⟩
set_option maxRecDepth 100000 in
theorem same_none (b1 c1 : Nat) (w : World) :
    Calls Tryz.prog 7 #[.slice (some ⟨b1, 0, none⟩) 1 c1, .slice none 0 0] w fun e w' => e = .returned (.bool false) ∧ w = w' := by
  go_enter Tryz.func7, Tryz.ntmps7
  go_wp2_with fail
  refine (equal_none b1 c1 w).mono ?_
  rintro e w1 ⟨rfl, rfl⟩
  go_wp2
  go_ret
  exact ⟨rfl, rfl⟩
/-- A file, as it lies in a block of its own. -/
def fob (p : ByteArray) (d : Bool) (i : Int) (g : ByteArray) (n : Int) : Obj := .cells (fcs2 p d i g n) 24
/-- What lies at a file's place. -/
def At5 (w : World) (b : Nat) (p : ByteArray) (d : Bool) (i : Int) (g : ByteArray) (n : Int) : Prop :=
  w.cell? ⟨b, 0, none⟩ = some (.string p) ∧ w.cell? ⟨b, 1, none⟩ = some (.bool d) ∧ w.cell? ⟨b, 2, none⟩ = some (.int .u64 i) ∧ w.cell? ⟨b, 3, none⟩ = some (.string g) ∧ w.cell? ⟨b, 4, none⟩ = some (.int .i64 n)
theorem At5.keep {w w' : World} {n0 b : Nat} {p : ByteArray} {d : Bool} {i : Int} {g : ByteArray} {n : Int} (h : At5 w b p d i g n) (hb : Below n0 w w') (hl : b < n0) : At5 w' b p d i g n := by
  unfold At5
  rw [hb.cell (p := ⟨b, 0, none⟩) hl, hb.cell (p := ⟨b, 1, none⟩) hl, hb.cell (p := ⟨b, 2, none⟩) hl, hb.cell (p := ⟨b, 3, none⟩) hl, hb.cell (p := ⟨b, 4, none⟩) hl]
  exact h
theorem At5.here (w : World) (p : ByteArray) (d : Bool) (i : Int) (g : ByteArray) (n : Int) (t : TypeId) : At5 (w.alloc (.cells (fcs2 p d i g n) t)) w.heap.size p d i g n := by
  unfold At5 fcs2
  refine ⟨?_, ?_, ?_, ?_, ?_⟩ <;> rw [World.cell?_alloc_at _ _ _ _ (by simp)] <;> rfl
theorem At5.past {w : World} {b : Nat} {p : ByteArray} {d : Bool} {i : Int} {g : ByteArray} {n : Int} (o : Obj) (h : At5 w b p d i g n) (hl : b < w.heap.size) : At5 (w.alloc o) b p d i g n :=
  h.keep ((Below.refl _ _).alloc (Nat.le_refl _) o) hl
theorem same_at {w : World} {b1 c1 b2 c2 : Nat} {p : ByteArray} {d : Bool} {i : Int} {g : ByteArray} {n : Int} {p' : ByteArray} {d' : Bool} {i' : Int} {g' : ByteArray} {n' : Int}
    (h : At5 w b1 p d i g n) (h' : At5 w b2 p' d' i' g' n') (hb1 : b1 < w.heap.size) (hb2 : b2 < w.heap.size) :
    Calls Tryz.prog 7 #[.slice (some ⟨b1, 0, none⟩) 1 c1, .slice (some ⟨b2, 0, none⟩) 1 c2] w fun e w' => e = .returned (.bool (sameF p d g p' d' g')) ∧ Below w.heap.size w w' := by
  obtain ⟨x0, x1, x2, x3, x4⟩ := h
  obtain ⟨y0, y1, y2, y3, y4⟩ := h'
  exact same_one b1 c1 b2 c2 p d i g n p' d' i' g' n' w x0 x1 x2 x3 x4 y0 y1 y2 y3 y4 hb1 hb2
/-- Both files lie in their places, and nothing else that was there has changed. -/
def Lies (W w : World) (p : ByteArray) (d : Bool) (i : Int) (g : ByteArray) (n : Int) (p' : ByteArray) (d' : Bool) (i' : Int) (g' : ByteArray) (n' : Int) : Prop :=
  At5 w W.heap.size p d i g n ∧ At5 w (W.heap.size + 1) p' d' i' g' n' ∧ W.heap.size + 2 ≤ w.heap.size ∧ Below W.heap.size W w
theorem Lies.step {W w w' : World} {p : ByteArray} {d : Bool} {i : Int} {g : ByteArray} {n : Int} {p' : ByteArray} {d' : Bool} {i' : Int} {g' : ByteArray} {n' : Int}
    (h : Lies W w p d i g n p' d' i' g' n') (hb : Below w.heap.size w w') : Lies W w' p d i g n p' d' i' g' n' :=
  have h3 := h.2.2.1
  ⟨h.1.keep hb (by omega), h.2.1.keep hb (by omega), Nat.le_trans h3 hb.size, h.2.2.2.trans (hb.mono (by omega))⟩
theorem first_any (a b : ByteArray) (ha : a.size ≤ 250) (hb : b.size ≤ 250) (w : World) :
    Calls Tryz.prog 6 #[.string a, .string b] w fun e w' => e = .returned (.bool (decide (cmpL (pieces a) (pieces b) < 0))) ∧ Below w.heap.size w w' := by
  have h := before_any a b ha hb
  have e : cmpL (pieces a) (pieces b) = cmpD (pcs a.data.toList) (pcs b.data.toList) := by
    rw [cmpL_data]; unfold pieces slash; rw [splitB_pcs, splitB_pcs]
  rw [← e] at h
  exact Go.Proofs.YtdhpolneplbhjaaGreatDoor.XBefore.arbourref15_Before.calls 1000 a b _ w h
theorem second_any (a b : ByteArray) (ha : a.size ≤ 250) (hb : b.size ≤ 250) (w : World) :
    Calls Tryz.prog 6 #[.string b, .string a] w fun e w' => e = .returned (.bool (decide (0 < cmpL (pieces a) (pieces b)))) ∧ Below w.heap.size w w' := by
  have h := first_any b a hb ha w
  have e : cmpL (pieces b) (pieces a) = - cmpL (pieces a) (pieces b) := by
    rw [cmpL_data, cmpL_data, cmpD_flip]
  have e2 : decide (cmpL (pieces b) (pieces a) < 0) = decide (0 < cmpL (pieces a) (pieces b)) := by rw [e]; exact decide_eq_decide.2 (by omega)
  rw [e2] at h
  exact h
set_option maxHeartbeats 8000000 in
set_option maxRecDepth 100000 in
theorem walk (p : ByteArray) (d : Bool) (i : Int) (g : ByteArray) (n : Int) (p' : ByteArray) (d' : Bool) (i' : Int) (g' : ByteArray) (n' : Int) (hp : p.size ≤ maxLen) (hp' : p'.size ≤ maxLen) (W : World) (hW : 1 ≤ W.heap.size) :
    Calls Tryz.prog 3 #[.agg #[.string p, .bool d, .int .u64 i, .string g, .int .i64 n], .agg #[.string p', .bool d', .int .u64 i', .string g', .int .i64 n']] W fun e w' => e = .returned (.bool true) ∧ Below W.heap.size W w' := by
  have HW : Hid2 (1 ≤ W.heap.size) := hW
  have HP : Hid2 (p.size ≤ maxLen ∧ p'.size ≤ maxLen) := ⟨hp, hp'⟩
  clear hW hp hp'
  go_enter Tryz.func3, Tryz.ntmps3
  go_upto_if 10 with (fail)
  go_cut [4] (fun v4 wc => v4 = .bool false ∧ ∃ q : ByteArray, Hid2 (q.size ≤ 250) ∧ wc = (W.alloc (.cells #[.string q, .bool d, .int .u64 i, .string g, .int .i64 n] 24)).alloc (.cells #[.string p', .bool d', .int .u64 i', .string g', .int .i64 n'] 24))
  case first =>
    by_cases h : 250 < p.size
    · have d1 : decide ((250 : Int) < (p.size : Int)) = true := decide_eq_true (by omega)
      have d3 : decide (250 < p.size) = true := decide_eq_true (by omega)
      have d2 : ((250 : Int) ≤ (p.size : Int)) = True := eq_true (by omega)
      have hq : Hid2 ((p.extract 0 250).size ≤ 250) := by unfold Hid2; rw [ByteArray.size_extract]; omega
      go_wp2
      go_meet
      case rel => exact ⟨rfl, _, hq, rfl⟩
    · have d1 : decide ((250 : Int) < (p.size : Int)) = false := decide_eq_false (by omega)
      have d3 : decide (250 < p.size) = false := decide_eq_false (by omega)
      have hq : Hid2 (p.size ≤ 250) := by unfold Hid2; omega
      go_wp2
      go_meet
      case rel => exact ⟨rfl, _, hq, rfl⟩
  case rest =>
    obtain ⟨rfl, q, HQ, rfl⟩ := hcut
    go_upto_if 18 with (fail)
    go_cut [4] (fun v4 wc => v4 = .bool false ∧ ∃ q' : ByteArray, Hid2 (q'.size ≤ 250) ∧ wc = (W.alloc (.cells #[.string q, .bool d, .int .u64 i, .string g, .int .i64 n] 24)).alloc (.cells #[.string q', .bool d', .int .u64 i', .string g', .int .i64 n'] 24))
    case first =>
      by_cases h : 250 < p'.size
      · have d1 : decide ((250 : Int) < (p'.size : Int)) = true := decide_eq_true (by omega)
        have d3 : decide (250 < p'.size) = true := decide_eq_true (by omega)
        have d2 : ((250 : Int) ≤ (p'.size : Int)) = True := eq_true (by omega)
        have hq : Hid2 ((p'.extract 0 250).size ≤ 250) := by unfold Hid2; rw [ByteArray.size_extract]; omega
        go_wp2
        go_meet
        case rel => exact ⟨rfl, _, hq, rfl⟩
      · have d1 : decide ((250 : Int) < (p'.size : Int)) = false := decide_eq_false (by omega)
        have d3 : decide (250 < p'.size) = false := decide_eq_false (by omega)
        have hq : Hid2 (p'.size ≤ 250) := by unfold Hid2; omega
        go_wp2
        go_meet
        case rel => exact ⟨rfl, _, hq, rfl⟩
    case rest =>
      obtain ⟨rfl, q', HQ', rfl⟩ := hcut
      have L0 : Hid2 (Lies W ((W.alloc (.cells #[.string q, .bool d, .int .u64 i, .string g, .int .i64 n] 24)).alloc (.cells #[.string q', .bool d', .int .u64 i', .string g', .int .i64 n'] 24)) q d i g n q' d' i' g' n') := by
        refine ⟨(At5.here W q d i g n _).past _ (by simp), ?_, by simp, ((Below.refl _ _).alloc (Nat.le_refl _) _).alloc (by simp) _⟩
        have := At5.here (W.alloc (.cells #[.string q, .bool d, .int .u64 i, .string g, .int .i64 n] 24)) q' d' i' g' n' 24
        simp only [fcs2, World.size_alloc] at this
        exact this
      have HC : Hid2 (∀ w, Calls Tryz.prog 4 #[.agg #[.string q, .bool d, .int .u64 i, .string g, .int .i64 n], .agg #[.string q', .bool d', .int .u64 i', .string g', .int .i64 n']] w fun e w' => e = .returned (.int .i64 (cmpL (pieces q) (pieces q'))) ∧ Below w.heap.size w w') := fun w => comp_any q d i g n q' d' i' g' n' HQ.out HQ'.out w
      have HF : Hid2 (∀ w, Calls Tryz.prog 6 #[.string q, .string q'] w fun e w' => e = .returned (.bool (decide (cmpL (pieces q) (pieces q') < 0))) ∧ Below w.heap.size w w') := fun w => first_any q q' HQ.out HQ'.out w
      have HS : Hid2 (∀ w, Calls Tryz.prog 6 #[.string q', .string q] w fun e w' => e = .returned (.bool (decide (0 < cmpL (pieces q) (pieces q')))) ∧ Below w.heap.size w w') := fun w => second_any q q' HQ.out HQ'.out w
      clear HQ HQ' HP
      generalize cmpL (pieces q) (pieces q') = c at HC HF HS
      generalize (W.alloc (.cells #[.string q, .bool d, .int .u64 i, .string g, .int .i64 n] 24)).alloc (.cells #[.string q', .bool d', .int .u64 i', .string g', .int .i64 n'] 24) = w0 at L0 ⊢
      obtain ⟨⟨x0, x1, x2, x3, x4⟩, ⟨y0, y1, y2, y3, y4⟩, _, _⟩ := L0.out
      go_wp2_with fail
      refine (HC.out _).mono ?_
      rintro e w1 ⟨rfl, hb⟩
      have L1 := hid2 (L0.out.step hb)
      clear hb L0 x0 x1 x2 x3 x4 y0 y1 y2 y3 y4
      obtain ⟨⟨x0, x1, x2, x3, x4⟩, ⟨y0, y1, y2, y3, y4⟩, _, _⟩ := L1.out
      go_upto_region 6 with (fail)
      go_cut [5, 6] (fun v5 v6 wc => v5 = .int .i64 c ∧ v6 = .bool (sameF q d g q' d' g') ∧ wc = w1)
      case first =>
        by_cases h1 : (q.toList == q'.toList) = true
        · by_cases h2 : (d == d') = true
          · have hs : Hid2 (sameF q d g q' d' g' = (g.toList == g'.toList)) := by unfold Hid2 sameF; rw [h1, h2]; rfl
            go_wp2
            go_meet
            case rel => exact ⟨rfl, by rw [hs.out], rfl⟩
          · have h2 : (d == d') = false := by simpa using h2
            have hs : Hid2 (sameF q d g q' d' g' = false) := by unfold Hid2 sameF; rw [h1, h2]; rfl
            go_wp2
            go_meet
            case rel => exact ⟨rfl, by rw [hs.out], rfl⟩
        · have h1 : (q.toList == q'.toList) = false := by simpa using h1
          have hs : Hid2 (sameF q d g q' d' g' = false) := by unfold Hid2 sameF; rw [h1]; rfl
          go_wp2
          go_meet
          case rel => exact ⟨rfl, by rw [hs.out], rfl⟩
      case rest =>
        obtain ⟨rfl, rfl, rfl⟩ := hcut
        go_wp2_with fail
        refine (Go.Proofs.YtdhpolneplbhjaaGreatDoorR.awake_any _ (by have := L1.out.2.2.1; omega)).mono ?_
        rintro e w2 ⟨rfl, hb⟩
        have L2 := hid2 (L1.out.step hb)
        clear hb L1 x0 x1 x2 x3 x4 y0 y1 y2 y3 y4
        obtain ⟨⟨x0, x1, x2, x3, x4⟩, ⟨y0, y1, y2, y3, y4⟩, _, _⟩ := L2.out
        go_wp2_with fail
        refine (HF.out _).mono ?_
        rintro e w3 ⟨rfl, hb⟩
        have L3 := hid2 (L2.out.step hb)
        clear hb L2 x0 x1 x2 x3 x4 y0 y1 y2 y3 y4
        obtain ⟨⟨x0, x1, x2, x3, x4⟩, ⟨y0, y1, y2, y3, y4⟩, _, _⟩ := L3.out
        go_wp2_with fail
        refine (HS.out _).mono ?_
        rintro e w4 ⟨rfl, hb⟩
        have L4 := hid2 (L3.out.step hb)
        clear hb L3 x0 x1 x2 x3 x4 y0 y1 y2 y3 y4
        obtain ⟨⟨x0, x1, x2, x3, x4⟩, ⟨y0, y1, y2, y3, y4⟩, _, _⟩ := L4.out
        have HN := hid2 (show W.heap.size + 2 ≤ w4.heap.size from L4.out.2.2.1)
        have y0' : ∀ X, (w4.alloc X).cell? ⟨W.heap.size + 1, 0, none⟩ = some (.string q') := fun X => (L4.out.2.1.past X (by have := HN.out; omega)).1
        have y1' : ∀ X, (w4.alloc X).cell? ⟨W.heap.size + 1, 1, none⟩ = some (.bool d') := fun X => (L4.out.2.1.past X (by have := HN.out; omega)).2.1
        have y2' : ∀ X, (w4.alloc X).cell? ⟨W.heap.size + 1, 2, none⟩ = some (.int .u64 i') := fun X => (L4.out.2.1.past X (by have := HN.out; omega)).2.2.1
        have y3' : ∀ X, (w4.alloc X).cell? ⟨W.heap.size + 1, 3, none⟩ = some (.string g') := fun X => (L4.out.2.1.past X (by have := HN.out; omega)).2.2.2.1
        have y4' : ∀ X, (w4.alloc X).cell? ⟨W.heap.size + 1, 4, none⟩ = some (.int .i64 n') := fun X => (L4.out.2.1.past X (by have := HN.out; omega)).2.2.2.2
        go_wp2_with fail
        have hA := hid2 (show At5 ((w4.alloc (.cells #[.string q, .bool d, .int .u64 i, .string g, .int .i64 n] 24)).alloc (.cells #[.string q', .bool d', .int .u64 i', .string g', .int .i64 n'] 24)) w4.heap.size q d i g n from (At5.here w4 q d i g n _).past _ (by simp))
        have hB := hid2 (show At5 ((w4.alloc (.cells #[.string q, .bool d, .int .u64 i, .string g, .int .i64 n] 24)).alloc (.cells #[.string q', .bool d', .int .u64 i', .string g', .int .i64 n'] 24)) (w4.heap.size + 1) q' d' i' g' n' from by
          have := At5.here (w4.alloc (.cells #[.string q, .bool d, .int .u64 i, .string g, .int .i64 n] 24)) q' d' i' g' n' 24
          simp only [fcs2, World.size_alloc] at this
          exact this)
        refine (same_at hA.out hB.out (by simp; omega) (by simp)).mono ?_
        rintro e w5 ⟨rfl, hb⟩
        have L5 := hid2 (L4.out.step (w' := w5) ((((Below.refl w4.heap.size w4).alloc (Nat.le_refl _) _).alloc (by simp) _).trans (hb.mono (by simp; omega))))
        clear hb L4 HN hA hB x0 x1 x2 x3 x4 y0 y1 y2 y3 y4 y0' y1' y2' y3' y4'
        obtain ⟨⟨x0, x1, x2, x3, x4⟩, _, _, _⟩ := L5.out
        go_wp2_with fail
        refine (same_none _ _ _).mono ?_
        rintro e w6 ⟨rfl, rfl⟩
        go_wp2
        go_ret
        exact ⟨rfl, L5.out.2.2.2.alloc L5.out.2.2.2.size _⟩
end Go.Proofs.YtdhpolneplbhjaaGreatDoorG
