-- Written by this session's program xprint.py: the print, with contracts proved by hand among its texts. Not trusted: Lean checks it.
import Derived.Test.YtobkpglenpoacaaXChunkJoinsx0
namespace Go.Proofs.Ytobkpglenpoacaa.XChunkJoins
open Go.RowKit Go.Proofs.YtobkpglenpoacaaW.PrintWords Go.Proofs.YtobkpglenpoacaaW.PrintLast Go.Proofs.YtobkpglenpoacaaW.PrintMore
attribute [local go_sem] max2_int min2_int max_two min_two max_three min_three max_four min_four   -- for this text's walks alone
set_option linter.unusedVariables false
set_option linter.unusedSimpArgs false

/-! ### arbourlaw08_Text: function 11 -/
def arbourlaw08_Text.l0 : Nat → Int → List Int → Int → Int → Option (ByteArray)
  | 0, _, _, _, _ => none
  | k + 1, x1, x5, x6, x7 => if x7 < x1 then (if x5.length < 140737488355328 then (arbourlaw08_Text.l0 k x1 (x5 ++ [((IntKind.u64.wrap ((Go.bits .xor .u64 (Go.bits .xor .u64 (Go.bits .xor .u64 x6 (IntKind.u64.wrap (x6 * 8192))) ((Go.bits .xor .u64 x6 (IntKind.u64.wrap (x6 * 8192))) / 128)) (IntKind.u64.wrap ((Go.bits .xor .u64 (Go.bits .xor .u64 x6 (IntKind.u64.wrap (x6 * 8192))) ((Go.bits .xor .u64 x6 (IntKind.u64.wrap (x6 * 8192))) / 128)) * 131072))) + 11400714819323198485)) / 72057594037927936) % 256]) (IntKind.u64.wrap ((Go.bits .xor .u64 (Go.bits .xor .u64 (Go.bits .xor .u64 x6 (IntKind.u64.wrap (x6 * 8192))) ((Go.bits .xor .u64 x6 (IntKind.u64.wrap (x6 * 8192))) / 128)) (IntKind.u64.wrap ((Go.bits .xor .u64 (Go.bits .xor .u64 x6 (IntKind.u64.wrap (x6 * 8192))) ((Go.bits .xor .u64 x6 (IntKind.u64.wrap (x6 * 8192))) / 128)) * 131072))) + 11400714819323198485)) (wrap64 (x7 + 1))) else (none)) else (some (strOfNums x5))
def arbourlaw08_Text.f (k : Nat) (a0 : Int) (a1 : Int) : Option (ByteArray) := arbourlaw08_Text.l0 k a1 (([] : List Int)) a0 0
theorem arbourlaw08_Text.mono_l : ∀ k, (∀ y0 y1 y2 y3, LeO (arbourlaw08_Text.l0 k y0 y1 y2 y3) (arbourlaw08_Text.l0 (k + 1) y0 y1 y2 y3))
  | 0 => fun _ _ _ _ r h => by simp [arbourlaw08_Text.l0] at h
  | k + 1 => by
    have ih0 := arbourlaw08_Text.mono_l k
    · intro y0 y1 y2 y3
      unfold arbourlaw08_Text.l0
      repeat' first
      | (with_reducible exact ih0 _ _ _ _)
      | (with_reducible exact LeO.refl _)
      | (with_reducible exact LeO.none _)
      | (with_reducible refine LeO.ite ?_ ?_)
      | (with_reducible refine LeO.bind ?_ (fun _ => ?_))
      | exact ih0 _ _ _ _
      | exact LeO.none _
      | refine LeO.ite ?_ ?_
      | refine LeO.bind ?_ (fun _ => ?_)
theorem arbourlaw08_Text.mono : ∀ a0 a1 k, LeO (arbourlaw08_Text.f k a0 a1) (arbourlaw08_Text.f (k + 1) a0 a1) := by
  intro a0 a1 k
  have ih0 := arbourlaw08_Text.mono_l k
  unfold arbourlaw08_Text.f
  repeat' first
      | (with_reducible exact ih0 _ _ _ _)
      | (with_reducible exact LeO.refl _)
      | (with_reducible exact LeO.none _)
      | (with_reducible refine LeO.ite ?_ ?_)
      | (with_reducible refine LeO.bind ?_ (fun _ => ?_))
      | exact ih0 _ _ _ _
      | exact LeO.none _
      | refine LeO.ite ?_ ?_
      | refine LeO.bind ?_ (fun _ => ?_)
set_option maxHeartbeats 8000000 in
set_option maxRecDepth 100000 in
theorem arbourlaw08_Text.calls (k : Nat) (a0 : Int) (a1 : Int) (r : ByteArray) (w : World) (h : arbourlaw08_Text.f k a0 a1 = some r) :
    Calls Try.prog 11 #[.int .u64 a0, .int .i64 a1] w fun e w' => e = .returned (.string r) ∧ Below w.heap.size w w' := by
  have HB := Aside0.mk (Below.refl w.heap.size w)
  have H : (arbourlaw08_Text.l0 k a1 (([] : List Int)) a0 0) = some r := h
  clear h
  obtain ⟨y101, hy101⟩ : ∃ y_ : List Int, y_ = (([] : List Int)) := ⟨_, rfl⟩
  replace H : (arbourlaw08_Text.l0 k a1 y101 a0 0) = some r := by first | (rw [hy101]; with_reducible exact H) | (have H2_ := (Option.bind_some _ _).symm.trans H; rw [hy101]; with_reducible exact H2_) | (have H2_ := (Option.bind_some _ _).symm.trans H; with_reducible exact H2_) | with_reducible exact H | (rw [hy101]; exact H) | exact H
  have Ny101 := Aside0.mk hy101
  clear hy101
  have H' := Aside0.mk H
  clear H
  go_enter Try.func11, Try.ntmps11
  go_wp2_with (first | ((with_reducible refine gate_dst (N := 8) rfl ?_); refine Kd.R_lit (Kd.int .u8) _ 5 ?hg (N := 8) ?hd (xs := ([] : List Int)) (inner := []) (ok := fun _ => True) (okp := fun _ => True) ?hr ?hp (fun _ hk => hk) trivial (Below.refl _ _) (Nat.le_refl _) (by simp) ?_; (case hd => rfl); (case hg => rfl); (case hr => first | (go_simp; done) | (go_simp; rfl)); (case hp => exact (Reps.none _ _)); intro v102 w3 ho4 hb hg_ hnew_; clear hg_ hnew_; (first | rw [← Ny101.out] at ho4 | (simp only [Int.reduceToNat] at ho4; rw [← Ny101.out] at ho4)); have n0_ := Aside0.mk (Kd.R_lower ho4 (below_size (by repeat (first | (with_reducible first | exact HB.out | apply below_alloc | apply pw_below_drewN | apply below_drew1) | exact HB.out)))); have n1_ := Aside0.mk (below_step (by repeat (first | (with_reducible first | exact HB.out | apply below_alloc | apply pw_below_drewN | apply below_drew1) | exact HB.out)) hb); clear HB; have HO103 := n0_; have HB := n1_; clear n0_ n1_; clear hb ho4))
  go_loopg [5, 6, 7] k (fun kq v5 v6 v7 w' => ∃ (x5_1 : List Int) (x6_1 : Int) (x7_1 : Int), v6 = .int .u64 x6_1 ∧ v7 = .int .i64 x7_1 ∧ Aside0 (arbourlaw08_Text.l0 kq a1 x5_1 x6_1 x7_1 = some r) ∧ Aside0 (kq ≤ k) ∧ Aside0 (Kd.R (Kd.int .u8) 5 w' w.heap.size (fun _ => True) v5 x5_1) ∧ Aside0 (Below w.heap.size w w'))
  case atStart => exact ⟨(y101), (a0), (0), (by first | rfl | (simp; done) | (simp [*]; done)), (by first | rfl | (simp; done) | (simp [*]; done)), H', ⟨Nat.le_refl _⟩, ⟨by (with_reducible repeat (first | apply Kd.R_alloc | apply Kd.R_drewN | apply Kd.R_drew)); exact HO103.out⟩, ⟨by repeat (first | (with_reducible first | exact HB.out | apply below_alloc | apply pw_below_drewN | apply below_drew1) | exact HB.out)⟩⟩
  case round =>
    clear H'
    try clear c1
    try clear p2
    obtain ⟨x5_1, x6_1, x7_1, rfl, rfl, HA, HK1, HO_5, HB⟩ := hrel
    cases gk with
    | zero => exact absurd HA.out (by simp [arbourlaw08_Text.l0])
    | succ k1 =>
      have H := HA.out
      clear HA
      simp only [arbourlaw08_Text.l0] at H
      by_cases c5 : x7_1 < a1
      · rw [if_pos c5] at H
        have c5b0 : decide (x7_1 < a1) = true := decide_eq_true c5
        clear c5
        by_cases c6 : x5_1.length < 140737488355328
        · rw [if_pos c6] at H
          have LMc6 := Aside0.mk c6
          clear c6
          obtain ⟨y104, hy104⟩ : ∃ y_ : List Int, y_ = (x5_1 ++ [((IntKind.u64.wrap ((Go.bits .xor .u64 (Go.bits .xor .u64 (Go.bits .xor .u64 x6_1 (IntKind.u64.wrap (x6_1 * 8192))) ((Go.bits .xor .u64 x6_1 (IntKind.u64.wrap (x6_1 * 8192))) / 128)) (IntKind.u64.wrap ((Go.bits .xor .u64 (Go.bits .xor .u64 x6_1 (IntKind.u64.wrap (x6_1 * 8192))) ((Go.bits .xor .u64 x6_1 (IntKind.u64.wrap (x6_1 * 8192))) / 128)) * 131072))) + 11400714819323198485)) / 72057594037927936) % 256]) := ⟨_, rfl⟩
          replace H : (arbourlaw08_Text.l0 k1 a1 y104 (IntKind.u64.wrap ((Go.bits .xor .u64 (Go.bits .xor .u64 (Go.bits .xor .u64 x6_1 (IntKind.u64.wrap (x6_1 * 8192))) ((Go.bits .xor .u64 x6_1 (IntKind.u64.wrap (x6_1 * 8192))) / 128)) (IntKind.u64.wrap ((Go.bits .xor .u64 (Go.bits .xor .u64 x6_1 (IntKind.u64.wrap (x6_1 * 8192))) ((Go.bits .xor .u64 x6_1 (IntKind.u64.wrap (x6_1 * 8192))) / 128)) * 131072))) + 11400714819323198485)) (wrap64 (x7_1 + 1))) = some r := by first | (rw [hy104]; with_reducible exact H) | (have H2_ := (Option.bind_some _ _).symm.trans H; rw [hy104]; with_reducible exact H2_) | (have H2_ := (Option.bind_some _ _).symm.trans H; with_reducible exact H2_) | with_reducible exact H | (rw [hy104]; exact H) | exact H
          have Ny104 := Aside0.mk hy104
          clear hy104
          have H' := Aside0.mk H
          clear H
          go_wp2_with (first | ((with_reducible refine gate_builtin (b := .append) (xs := #[.tmp 29, .tmp 33]) rfl ?_); at_builtin; refine Kd.R_append (Kd.int .u8) (w0 := w) w.heap.size rfl (.tmp 29) (.tmp 33) 77 5 (.int .u8 0) 1 rfl Try.underlying77 info5 rfl (by decide) (by omega) u5 x5_1 (((IntKind.u64.wrap ((Go.bits .xor .u64 (Go.bits .xor .u64 (Go.bits .xor .u64 x6_1 (IntKind.u64.wrap (x6_1 * 8192))) ((Go.bits .xor .u64 x6_1 (IntKind.u64.wrap (x6_1 * 8192))) / 128)) (IntKind.u64.wrap ((Go.bits .xor .u64 (Go.bits .xor .u64 x6_1 (IntKind.u64.wrap (x6_1 * 8192))) ((Go.bits .xor .u64 x6_1 (IntKind.u64.wrap (x6_1 * 8192))) / 128)) * 131072))) + 11400714819323198485)) / 72057594037927936) % 256) [.int .u8 (((IntKind.u64.wrap ((Go.bits .xor .u64 (Go.bits .xor .u64 (Go.bits .xor .u64 x6_1 (IntKind.u64.wrap (x6_1 * 8192))) ((Go.bits .xor .u64 x6_1 (IntKind.u64.wrap (x6_1 * 8192))) / 128)) (IntKind.u64.wrap ((Go.bits .xor .u64 (Go.bits .xor .u64 x6_1 (IntKind.u64.wrap (x6_1 * 8192))) ((Go.bits .xor .u64 x6_1 (IntKind.u64.wrap (x6_1 * 8192))) / 128)) * 131072))) + 11400714819323198485)) / 72057594037927936) % 256)] (fun _ => True) (fun _ => False) rfl rfl ?aP (fun _ hk => hk.elim) ?aF ?aO ?aB ?aS ?aL ?_; (case aP => exact rfl); (case aB => exact (by repeat (first | (with_reducible first | exact HB.out | apply below_alloc | apply pw_below_drewN | apply below_drew1) | exact HB.out))); (case aF => exact (fun _ _ => trivial)); (case aO => exact (by (with_reducible repeat (first | apply Kd.R_alloc | apply Kd.R_drewN | apply Kd.R_drew)); exact HO_5.out)); (case aS => exact (below_size (by repeat (first | (with_reducible first | exact HB.out | apply below_alloc | apply pw_below_drewN | apply below_drew1) | exact HB.out)))); (case aL => have := LMc6.out; omega); intro v105 w7 ho hb hg hat; rw [← Ny104.out] at ho; have n0_ := Aside0.mk (hb); have n1_ := Aside0.mk (ho); clear HB; clear HO_5; have HB := n0_; have HO106 := n1_; clear n0_ n1_; clear ho hb hg hat))
          go_roundg k1
          case measure => have := HK1.out; omega
          case rel => exact ⟨(y104), (IntKind.u64.wrap ((Go.bits .xor .u64 (Go.bits .xor .u64 (Go.bits .xor .u64 x6_1 (IntKind.u64.wrap (x6_1 * 8192))) ((Go.bits .xor .u64 x6_1 (IntKind.u64.wrap (x6_1 * 8192))) / 128)) (IntKind.u64.wrap ((Go.bits .xor .u64 (Go.bits .xor .u64 x6_1 (IntKind.u64.wrap (x6_1 * 8192))) ((Go.bits .xor .u64 x6_1 (IntKind.u64.wrap (x6_1 * 8192))) / 128)) * 131072))) + 11400714819323198485)), (wrap64 (x7_1 + 1)), (by first | rfl | (simp; done) | (simp [*]; done)), (by first | rfl | (simp; done) | (simp [*]; done)), H', ⟨by have := HK1.out; omega⟩, ⟨by (with_reducible repeat (first | apply Kd.R_alloc | apply Kd.R_drewN | apply Kd.R_drew)); exact HO106.out⟩, ⟨by repeat (first | (with_reducible first | exact HB.out | apply below_alloc | apply pw_below_drewN | apply below_drew1) | exact HB.out)⟩⟩
        · rw [if_neg c6] at H
          exact absurd H (by simp)
      · rw [if_neg c5] at H
        have c5b0 : decide (x7_1 < a1) = false := decide_eq_false c5
        clear c5
        obtain rfl := Option.some.inj H
        have hcv8 := own_string (P := Try.prog) Try.underlying77 Try.underlying5 Try.underlying9 (Kd.own_of_R HO_5.out)
        go_wp2
        go_ret
        exact ⟨by first | rfl | (simp [errW_none, errW_some] <;> rfl) | (simp [*, errW_none, errW_some] <;> rfl), by repeat (first | (with_reducible first | exact HB.out | apply below_alloc | apply pw_below_drewN | apply below_drew1) | exact HB.out)⟩

/-! ### chunk_Gear: function 40 -/
def chunk_Gear.f (a0 : Int) : Option (Int) := some (Go.bits .xor .u64 (IntKind.u64.wrap ((Go.bits .xor .u64 (IntKind.u64.wrap ((Go.bits .xor .u64 (IntKind.u64.wrap ((IntKind.u64.wrap ((IntKind.u64.wrap (a0)) + 1)) * 11400714819323198485)) ((IntKind.u64.wrap ((IntKind.u64.wrap ((IntKind.u64.wrap (a0)) + 1)) * 11400714819323198485)) / 1073741824)) * 13787848793156543929)) ((IntKind.u64.wrap ((Go.bits .xor .u64 (IntKind.u64.wrap ((IntKind.u64.wrap ((IntKind.u64.wrap (a0)) + 1)) * 11400714819323198485)) ((IntKind.u64.wrap ((IntKind.u64.wrap ((IntKind.u64.wrap (a0)) + 1)) * 11400714819323198485)) / 1073741824)) * 13787848793156543929)) / 134217728)) * 10723151780598845931)) ((IntKind.u64.wrap ((Go.bits .xor .u64 (IntKind.u64.wrap ((Go.bits .xor .u64 (IntKind.u64.wrap ((IntKind.u64.wrap ((IntKind.u64.wrap (a0)) + 1)) * 11400714819323198485)) ((IntKind.u64.wrap ((IntKind.u64.wrap ((IntKind.u64.wrap (a0)) + 1)) * 11400714819323198485)) / 1073741824)) * 13787848793156543929)) ((IntKind.u64.wrap ((Go.bits .xor .u64 (IntKind.u64.wrap ((IntKind.u64.wrap ((IntKind.u64.wrap (a0)) + 1)) * 11400714819323198485)) ((IntKind.u64.wrap ((IntKind.u64.wrap ((IntKind.u64.wrap (a0)) + 1)) * 11400714819323198485)) / 1073741824)) * 13787848793156543929)) / 134217728)) * 10723151780598845931)) / 2147483648))
set_option maxHeartbeats 8000000 in
set_option maxRecDepth 100000 in
theorem chunk_Gear.calls (a0 : Int) (r : Int) (w : World) (h : chunk_Gear.f a0 = some r) :
    Calls Try.prog 40 #[.int .u8 a0] w fun e w' => e = .returned (.int .u64 r) ∧ Drawn0 w w' := by
  have H : (some (Go.bits .xor .u64 (IntKind.u64.wrap ((Go.bits .xor .u64 (IntKind.u64.wrap ((Go.bits .xor .u64 (IntKind.u64.wrap ((IntKind.u64.wrap ((IntKind.u64.wrap (a0)) + 1)) * 11400714819323198485)) ((IntKind.u64.wrap ((IntKind.u64.wrap ((IntKind.u64.wrap (a0)) + 1)) * 11400714819323198485)) / 1073741824)) * 13787848793156543929)) ((IntKind.u64.wrap ((Go.bits .xor .u64 (IntKind.u64.wrap ((IntKind.u64.wrap ((IntKind.u64.wrap (a0)) + 1)) * 11400714819323198485)) ((IntKind.u64.wrap ((IntKind.u64.wrap ((IntKind.u64.wrap (a0)) + 1)) * 11400714819323198485)) / 1073741824)) * 13787848793156543929)) / 134217728)) * 10723151780598845931)) ((IntKind.u64.wrap ((Go.bits .xor .u64 (IntKind.u64.wrap ((Go.bits .xor .u64 (IntKind.u64.wrap ((IntKind.u64.wrap ((IntKind.u64.wrap (a0)) + 1)) * 11400714819323198485)) ((IntKind.u64.wrap ((IntKind.u64.wrap ((IntKind.u64.wrap (a0)) + 1)) * 11400714819323198485)) / 1073741824)) * 13787848793156543929)) ((IntKind.u64.wrap ((Go.bits .xor .u64 (IntKind.u64.wrap ((IntKind.u64.wrap ((IntKind.u64.wrap (a0)) + 1)) * 11400714819323198485)) ((IntKind.u64.wrap ((IntKind.u64.wrap ((IntKind.u64.wrap (a0)) + 1)) * 11400714819323198485)) / 1073741824)) * 13787848793156543929)) / 134217728)) * 10723151780598845931)) / 2147483648))) = some r := h
  clear h
  obtain rfl := Option.some.inj H
  go_enter Try.func40, Try.ntmps40
  go_wp2
  go_ret
  exact ⟨by first | rfl | (simp; done) | (simp [*]; done), by repeat (first | exact Drawn0.refl _ | apply Drawn0.step)⟩

/-! ### chunk_Cut: function 15 -/
mutual
def chunk_Cut.l0 : Nat → ByteArray → Int → Int → Option (Int)
  | 0, _, _, _ => none
  | k + 1, x0, x3, x4 => if x4 < (x0.size : Int) then (chunk_Cut.j1 k x0 x3 x4 (decide (x4 < 512))) else (chunk_Cut.j1 k x0 x3 x4 false)
def chunk_Cut.j1 : Nat → ByteArray → Int → Int → Bool → Option (Int)
  | 0, _, _, _, _ => none
  | k + 1, x0, x3, x4, x17 => if x17 = true then (if 0 ≤ x4 then (if x4 < (x0.size : Int) then ((chunk_Gear.f (bt x0 x4)).bind fun t107 => (if (wrap64 (x4 + 1)) ≥ 32 then (if (Go.bits .and .u64 ((IntKind.u64.wrap ((IntKind.u64.wrap (x3 * 2)) + t107)) / 4294967296) 127) = 0 then (some (wrap64 (x4 + 1))) else (chunk_Cut.l0 k x0 (IntKind.u64.wrap ((IntKind.u64.wrap (x3 * 2)) + t107)) (wrap64 (x4 + 1)))) else (chunk_Cut.l0 k x0 (IntKind.u64.wrap ((IntKind.u64.wrap (x3 * 2)) + t107)) (wrap64 (x4 + 1))))) else (none)) else (none)) else (some (mn (x0.size : Int) 512))
end
def chunk_Cut.f (k : Nat) (a0 : ByteArray) : Option (Int) := if (a0.size : Int) ≤ 32 then (some (a0.size : Int)) else (chunk_Cut.l0 k a0 0 0)
theorem chunk_Cut.mono_l : ∀ k, (∀ y0 y1 y2, LeO (chunk_Cut.l0 k y0 y1 y2) (chunk_Cut.l0 (k + 1) y0 y1 y2)) ∧ (∀ y0 y1 y2 y3, LeO (chunk_Cut.j1 k y0 y1 y2 y3) (chunk_Cut.j1 (k + 1) y0 y1 y2 y3))
  | 0 => ⟨fun _ _ _ r h => by simp [chunk_Cut.l0] at h, fun _ _ _ _ r h => by simp [chunk_Cut.j1] at h⟩
  | k + 1 => by
    obtain ⟨ih0, ih1⟩ := chunk_Cut.mono_l k
    refine ⟨?_, ?_⟩
    · intro y0 y1 y2
      unfold chunk_Cut.l0
      repeat' first
      | (with_reducible exact ih0 _ _ _)
      | (with_reducible exact ih1 _ _ _ _)
      | (with_reducible exact LeO.refl _)
      | (with_reducible exact LeO.none _)
      | (with_reducible refine LeO.ite ?_ ?_)
      | (with_reducible refine LeO.bind ?_ (fun _ => ?_))
      | exact ih0 _ _ _
      | exact ih1 _ _ _ _
      | exact LeO.none _
      | refine LeO.ite ?_ ?_
      | refine LeO.bind ?_ (fun _ => ?_)
    · intro y0 y1 y2 y3
      unfold chunk_Cut.j1
      repeat' first
      | (with_reducible exact ih0 _ _ _)
      | (with_reducible exact ih1 _ _ _ _)
      | (with_reducible exact LeO.refl _)
      | (with_reducible exact LeO.none _)
      | (with_reducible refine LeO.ite ?_ ?_)
      | (with_reducible refine LeO.bind ?_ (fun _ => ?_))
      | exact ih0 _ _ _
      | exact ih1 _ _ _ _
      | exact LeO.none _
      | refine LeO.ite ?_ ?_
      | refine LeO.bind ?_ (fun _ => ?_)
theorem chunk_Cut.mono : ∀ a0 k, LeO (chunk_Cut.f k a0) (chunk_Cut.f (k + 1) a0) := by
  intro a0 k
  obtain ⟨ih0, ih1⟩ := chunk_Cut.mono_l k
  unfold chunk_Cut.f
  repeat' first
      | (with_reducible exact ih0 _ _ _)
      | (with_reducible exact ih1 _ _ _ _)
      | (with_reducible exact LeO.refl _)
      | (with_reducible exact LeO.none _)
      | (with_reducible refine LeO.ite ?_ ?_)
      | (with_reducible refine LeO.bind ?_ (fun _ => ?_))
      | exact ih0 _ _ _
      | exact ih1 _ _ _ _
      | exact LeO.none _
      | refine LeO.ite ?_ ?_
      | refine LeO.bind ?_ (fun _ => ?_)
set_option maxHeartbeats 8000000 in
set_option maxRecDepth 100000 in
theorem chunk_Cut.calls (k : Nat) (a0 : ByteArray) (r : Int) (w : World) (h : chunk_Cut.f k a0 = some r) :
    Calls Try.prog 15 #[.string a0] w fun e w' => e = .returned (.int .i64 r) ∧ Below w.heap.size w w' := by
  have HB := Aside0.mk (Below.refl w.heap.size w)
  have H : (if (a0.size : Int) ≤ 32 then (some (a0.size : Int)) else (chunk_Cut.l0 k a0 0 0)) = some r := h
  clear h
  by_cases c2 : (a0.size : Int) ≤ 32
  · rw [if_pos c2] at H
    have c2b0 : decide ((a0.size : Int) ≤ 32) = true := decide_eq_true c2
    have c2b1 : decide (a0.size ≤ 32) = true := decide_eq_true (by omega)
    clear c2
    obtain rfl := Option.some.inj H
    go_enter Try.func15, Try.ntmps15
    go_wp2
    go_ret
    exact ⟨by first | rfl | (simp [errW_none, errW_some] <;> rfl) | (simp [*, errW_none, errW_some] <;> rfl), by repeat (first | (with_reducible first | exact HB.out | apply below_alloc | apply pw_below_drewN | apply below_drew1) | exact HB.out)⟩
  · rw [if_neg c2] at H
    have c2b0 : decide ((a0.size : Int) ≤ 32) = false := decide_eq_false c2
    have c2b1 : decide (a0.size ≤ 32) = false := decide_eq_false (by omega)
    clear c2
    have H' := Aside0.mk H
    clear H
    go_enter Try.func15, Try.ntmps15
    go_wp2
    go_loopg [3, 4] k (fun kq v3 v4 w' => ∃ (x3_1 : Int) (x4_1 : Int), v3 = .int .u64 x3_1 ∧ v4 = .int .i64 x4_1 ∧ Aside0 (chunk_Cut.l0 kq a0 x3_1 x4_1 = some r) ∧ Aside0 (kq ≤ k) ∧ Aside0 (Below w.heap.size w w'))
    case atStart => exact ⟨(0), (0), (by first | rfl | (simp; done) | (simp [*]; done)), (by first | rfl | (simp; done) | (simp [*]; done)), H', ⟨Nat.le_refl _⟩, ⟨by repeat (first | (with_reducible first | exact HB.out | apply below_alloc | apply pw_below_drewN | apply below_drew1) | exact HB.out)⟩⟩
    case round =>
      clear H'
      try clear c1
      try clear c2
      try clear c2b0
      try clear c2b1
      try clear p2
      obtain ⟨x3_1, x4_1, rfl, rfl, HA, HK1, HB⟩ := hrel
      cases gk with
      | zero => exact absurd HA.out (by simp [chunk_Cut.l0])
      | succ k1 =>
        have H := HA.out
        clear HA
        simp only [chunk_Cut.l0] at H
        have HC3 := Aside0.mk H
        clear H
        go_upto_region 5 with (fail)
        go_cut [17] (fun v17 wc => ∃ (kq : Nat) (x17_2 : Bool), v17 = .bool x17_2 ∧ Aside0 (chunk_Cut.j1 kq a0 x3_1 x4_1 x17_2 = some r) ∧ Aside0 (kq ≤ k1) ∧ Aside0 (Below w.heap.size w wc))
        case first =>
          have H := HC3.out
          clear HC3
          by_cases c4 : x4_1 < (a0.size : Int)
          · rw [if_pos c4] at H
            have c4b0 : decide (x4_1 < (a0.size : Int)) = true := decide_eq_true c4
            clear c4
            (first | rw [c4b0] | (simp only [i64_w, i32_w]; rw [c4b0]) | skip)
            have H' := Aside0.mk H
            clear H
            go_wp2
            go_meet
            case rel => exact ⟨_, (decide (x4_1 < 512)), (by first | rfl | (simp; done) | (simp [*]; done)), H', ⟨by have := HK1.out; first | omega | exact Nat.le_refl _⟩, ⟨by repeat (first | (with_reducible first | exact HB.out | apply below_alloc | apply pw_below_drewN | apply below_drew1) | exact HB.out)⟩⟩
          · rw [if_neg c4] at H
            have c4b0 : decide (x4_1 < (a0.size : Int)) = false := decide_eq_false c4
            clear c4
            (first | rw [c4b0] | (simp only [i64_w, i32_w]; rw [c4b0]) | skip)
            have H' := Aside0.mk H
            clear H
            go_wp2
            go_meet
            case rel => exact ⟨_, (false), (by first | rfl | (simp; done) | (simp [*]; done)), H', ⟨by have := HK1.out; first | omega | exact Nat.le_refl _⟩, ⟨by repeat (first | (with_reducible first | exact HB.out | apply below_alloc | apply pw_below_drewN | apply below_drew1) | exact HB.out)⟩⟩
        case rest =>
          clear HC3
          try clear c1
          try clear c2
          try clear c2b0
          try clear c2b1
          try clear p2
          try clear c4
          try clear c4b0
          try clear p2
          obtain ⟨kq, x17_2, rfl, HA, HJ2, HB⟩ := hcut
          cases kq with
          | zero => exact absurd HA.out (by simp [chunk_Cut.j1])
          | succ kj2 =>
            have H := HA.out
            clear HA
            simp only [chunk_Cut.j1] at H
            by_cases c5 : x17_2 = true
            · subst c5
              have H1 : (if 0 ≤ x4_1 then (if x4_1 < (a0.size : Int) then ((chunk_Gear.f (bt a0 x4_1)).bind fun t107 => (if (wrap64 (x4_1 + 1)) ≥ 32 then (if (Go.bits .and .u64 ((IntKind.u64.wrap ((IntKind.u64.wrap (x3_1 * 2)) + t107)) / 4294967296) 127) = 0 then (some (wrap64 (x4_1 + 1))) else (chunk_Cut.l0 kj2 a0 (IntKind.u64.wrap ((IntKind.u64.wrap (x3_1 * 2)) + t107)) (wrap64 (x4_1 + 1)))) else (chunk_Cut.l0 kj2 a0 (IntKind.u64.wrap ((IntKind.u64.wrap (x3_1 * 2)) + t107)) (wrap64 (x4_1 + 1))))) else (none)) else (none)) = some r := by rw [if_pos rfl] at H; exact H
              clear H
              have H := H1
              clear H1
              by_cases c6 : 0 ≤ x4_1
              · rw [if_pos c6] at H
                have c6b0 : decide (0 ≤ x4_1) = true := decide_eq_true c6
                clear c6
                by_cases c7 : x4_1 < (a0.size : Int)
                · rw [if_pos c7] at H
                  have c7b0 : decide (x4_1 < (a0.size : Int)) = true := decide_eq_true c7
                  clear c7
                  replace H := Option.bind_eq_some_iff.mp H
                  obtain ⟨t107, A90, H⟩ := H
                  replace H : (if (wrap64 (x4_1 + 1)) ≥ 32 then (if (Go.bits .and .u64 ((IntKind.u64.wrap ((IntKind.u64.wrap (x3_1 * 2)) + t107)) / 4294967296) 127) = 0 then (some (wrap64 (x4_1 + 1))) else (chunk_Cut.l0 kj2 a0 (IntKind.u64.wrap ((IntKind.u64.wrap (x3_1 * 2)) + t107)) (wrap64 (x4_1 + 1)))) else (chunk_Cut.l0 kj2 a0 (IntKind.u64.wrap ((IntKind.u64.wrap (x3_1 * 2)) + t107)) (wrap64 (x4_1 + 1)))) = some r := H
                  have A9 := Aside0.mk A90
                  clear A90
                  by_cases c10 : (wrap64 (x4_1 + 1)) ≥ 32
                  · rw [if_pos c10] at H
                    have c10b0 : decide (32 ≤ (wrap64 (x4_1 + 1))) = true := decide_eq_true c10
                    clear c10
                    by_cases c11 : (Go.bits .and .u64 ((IntKind.u64.wrap ((IntKind.u64.wrap (x3_1 * 2)) + t107)) / 4294967296) 127) = 0
                    · rw [if_pos c11] at H
                      have c11b0 : ((Go.bits .and .u64 ((IntKind.u64.wrap ((IntKind.u64.wrap (x3_1 * 2)) + t107)) / 4294967296) 127) == 0) = true := beq_iff_eq.mpr c11
                      have c11b1 : ((Go.bits .and .u64 ((IntKind.u64.wrap ((IntKind.u64.wrap (x3_1 * 2)) + t107)) / 4294967296) 127) != 0) = false := bne_eq_false_iff_eq.mpr c11
                      clear c11
                      obtain rfl := Option.some.inj H
                      have p8 : 0 ≤ (x4_1 : Int) := of_decide_eq_true (by first | (with_reducible assumption) | assumption)
                      have q8 : x4_1 < (a0.size : Int) := of_decide_eq_true (by first | (with_reducible assumption) | assumption)
                      have hx8 := bt_at a0 x4_1
                      replace p8 := eq_true p8
                      replace q8 := eq_true q8
                      go_wp2_with (first | ((with_reducible refine gate_callee (f := 40) rfl ?_); refine goesL_ (some 25) rfl rfl Try.func40 (by kernel_rfl) rfl #[.int .u8 (bt a0 x4_1)] rfl (by (try simp only [List.map_toArray, List.map_cons, List.map_nil]); first | done | rfl | (simp only [List.length_drop, List.length_take]; rfl)) ?_; (with_reducible refine (chunk_Gear.calls (bt a0 x4_1) t107 _ A9.out).mono ?_); rintro e w' ⟨rfl, ⟨nd, rfl⟩⟩; refine ⟨_, rfl, ?_⟩))
                      go_ret
                      exact ⟨by first | rfl | (simp [errW_none, errW_some] <;> rfl) | (simp [*, errW_none, errW_some] <;> rfl), by repeat (first | (with_reducible first | exact HB.out | apply below_alloc | apply pw_below_drewN | apply below_drew1) | exact HB.out)⟩
                    · rw [if_neg c11] at H
                      have c11b0 : ((Go.bits .and .u64 ((IntKind.u64.wrap ((IntKind.u64.wrap (x3_1 * 2)) + t107)) / 4294967296) 127) == 0) = false := beq_eq_false_iff_ne.mpr c11
                      have c11b1 : ((Go.bits .and .u64 ((IntKind.u64.wrap ((IntKind.u64.wrap (x3_1 * 2)) + t107)) / 4294967296) 127) != 0) = true := bne_iff_ne.mpr c11
                      have H' := Aside0.mk H
                      clear H
                      have p8 : 0 ≤ (x4_1 : Int) := of_decide_eq_true (by first | (with_reducible assumption) | assumption)
                      have q8 : x4_1 < (a0.size : Int) := of_decide_eq_true (by first | (with_reducible assumption) | assumption)
                      have hx8 := bt_at a0 x4_1
                      replace p8 := eq_true p8
                      replace q8 := eq_true q8
                      go_wp2_with (first | ((with_reducible refine gate_callee (f := 40) rfl ?_); refine goesL_ (some 25) rfl rfl Try.func40 (by kernel_rfl) rfl #[.int .u8 (bt a0 x4_1)] rfl (by (try simp only [List.map_toArray, List.map_cons, List.map_nil]); first | done | rfl | (simp only [List.length_drop, List.length_take]; rfl)) ?_; (with_reducible refine (chunk_Gear.calls (bt a0 x4_1) t107 _ A9.out).mono ?_); rintro e w' ⟨rfl, ⟨nd, rfl⟩⟩; refine ⟨_, rfl, ?_⟩))
                      go_roundg kj2
                      case measure => have := HK1.out; have := HJ2.out; omega
                      case rel => exact ⟨(IntKind.u64.wrap ((IntKind.u64.wrap (x3_1 * 2)) + t107)), (wrap64 (x4_1 + 1)), (by first | rfl | (simp; done) | (simp [*]; done)), (by first | rfl | (simp; done) | (simp [*]; done)), H', ⟨by have := HK1.out; have := HJ2.out; omega⟩, ⟨by repeat (first | (with_reducible first | exact HB.out | apply below_alloc | apply pw_below_drewN | apply below_drew1) | exact HB.out)⟩⟩
                  · rw [if_neg c10] at H
                    have c10b0 : decide (32 ≤ (wrap64 (x4_1 + 1))) = false := decide_eq_false c10
                    clear c10
                    have H' := Aside0.mk H
                    clear H
                    have p8 : 0 ≤ (x4_1 : Int) := of_decide_eq_true (by first | (with_reducible assumption) | assumption)
                    have q8 : x4_1 < (a0.size : Int) := of_decide_eq_true (by first | (with_reducible assumption) | assumption)
                    have hx8 := bt_at a0 x4_1
                    replace p8 := eq_true p8
                    replace q8 := eq_true q8
                    go_wp2_with (first | ((with_reducible refine gate_callee (f := 40) rfl ?_); refine goesL_ (some 25) rfl rfl Try.func40 (by kernel_rfl) rfl #[.int .u8 (bt a0 x4_1)] rfl (by (try simp only [List.map_toArray, List.map_cons, List.map_nil]); first | done | rfl | (simp only [List.length_drop, List.length_take]; rfl)) ?_; (with_reducible refine (chunk_Gear.calls (bt a0 x4_1) t107 _ A9.out).mono ?_); rintro e w' ⟨rfl, ⟨nd, rfl⟩⟩; refine ⟨_, rfl, ?_⟩))
                    go_roundg kj2
                    case measure => have := HK1.out; have := HJ2.out; omega
                    case rel => exact ⟨(IntKind.u64.wrap ((IntKind.u64.wrap (x3_1 * 2)) + t107)), (wrap64 (x4_1 + 1)), (by first | rfl | (simp; done) | (simp [*]; done)), (by first | rfl | (simp; done) | (simp [*]; done)), H', ⟨by have := HK1.out; have := HJ2.out; omega⟩, ⟨by repeat (first | (with_reducible first | exact HB.out | apply below_alloc | apply pw_below_drewN | apply below_drew1) | exact HB.out)⟩⟩
                · rw [if_neg c7] at H
                  exact absurd H (by simp)
              · rw [if_neg c6] at H
                exact absurd H (by simp)
            · replace c5 := Bool.eq_false_iff.mpr c5
              subst c5
              have H1 : (some (mn (a0.size : Int) 512)) = some r := by rw [if_neg (show ¬ (false = true) by decide)] at H; exact H
              clear H
              have H := H1
              clear H1
              obtain ⟨ji12, hji12⟩ : ∃ j_ : Int, (mn (a0.size : Int) 512) = j_ := ⟨_, rfl⟩
              replace H : (some ji12) = some r := by first | (rw [hji12] at H; exact H) | (simp only [hji12] at H ⊢; exact H)
              have hji12_ : (if 512 < (a0.size : Int) then 512 else (a0.size : Int)) = ji12 := hji12
              obtain rfl := Option.some.inj H
              go_wp2
              go_ret
              exact ⟨by first | rfl | (simp [errW_none, errW_some] <;> rfl) | (simp only [← hji12]; first | rfl | (simp [errW_none, errW_some] <;> rfl)) | (simp [*, errW_none, errW_some] <;> rfl), by repeat (first | (with_reducible first | exact HB.out | apply below_alloc | apply pw_below_drewN | apply below_drew1) | exact HB.out)⟩

/-! ### by hand: chunk_List: function 13 -/
def gear (b : Int) : Int := (chunk_Gear.f b).getD 0
theorem gear_some (b : Int) : chunk_Gear.f b = some (gear b) := rfl
section
open Go.Proofs.YtobkpglenpoacaaC
theorem hash_ends (s : ByteArray) (n : Nat) : Go.bits .and .u64 (hashAt gear s n / 4294967296) 127 = 0 ↔ ends gear s n = true := by
  have h := hash_sum gear s n
  have h0 : 0 ≤ hashAt gear s n ∧ hashAt gear s n < M64 := by rw [h]; unfold M64; omega
  rw [and127 _ (by omega) (by unfold M64 at *; omega), h]
  unfold ends
  rw [beq_iff_eq]
theorem cut_l0 (s : ByteArray) (hs : s.size ≤ 140737488351232) (h32 : 32 < s.size) : ∀ (d i k : Nat), i + d = min s.size 512 → 2 * d + 2 ≤ k → (∀ m, 32 ≤ m → m ≤ i → ends gear s m = false) →
    chunk_Cut.l0 k s (hashAt gear s i) i = some ((cutN gear s : Nat) : Int)
  | 0, i, k, hi, hk, hm => by
    obtain ⟨k, rfl⟩ : ∃ m, k = m + 2 := ⟨k - 2, by omega⟩
    have hfin : mn (s.size : Int) 512 = ((cutN gear s : Nat) : Int) := by
      have : min s.size 512 = cutN gear s := IsCut.unique gear (.inr ⟨h32, by omega, by omega, by omega, fun n a b => hm n a (by omega), by omega⟩) (isCut_cutN gear s)
      unfold mn; omega
    have hb : (decide ((i : Int) < 512)) = false ∨ ¬ ((i : Int) < (s.size : Int)) := by
      by_cases h : (i : Int) < s.size
      · left; simp; omega
      · right; exact h
    simp only [chunk_Cut.l0]
    rcases hb with hb | hb
    · rw [hb]
      have hj : chunk_Cut.j1 (k + 1) s (hashAt gear s i) i false = some ((cutN gear s : Nat) : Int) := by
        simp only [chunk_Cut.j1]; rw [if_neg (by decide), hfin]
      split <;> exact hj
    · rw [if_neg hb]; simp only [chunk_Cut.j1]; rw [if_neg (by decide), hfin]
  | d + 1, i, k, hi, hk, hm => by
    obtain ⟨k, rfl⟩ : ∃ m, k = m + 2 := ⟨k - 2, by omega⟩
    have hlt : (i : Int) < (s.size : Int) := by omega
    have hd : decide ((i : Int) < 512) = true := by simp; omega
    have hw : wrap64 ((i : Int) + 1) = ((i + 1 : Nat) : Int) := by unfold wrap64; omega
    simp only [chunk_Cut.l0]
    rw [if_pos hlt, hd]
    simp only [chunk_Cut.j1]
    rw [if_pos trivial, if_pos (by omega), if_pos hlt, gear_some, Option.bind_some, hw]
    have hh : IntKind.u64.wrap (IntKind.u64.wrap (hashAt gear s i * 2) + gear (bt s i)) = hashAt gear s (i + 1) := rfl
    rw [hh]
    by_cases h1 : 32 ≤ i + 1
    · rw [if_pos (by omega)]
      by_cases he : ends gear s (i + 1) = true
      · rw [if_pos ((hash_ends s (i + 1)).2 he)]
        have : i + 1 = cutN gear s := IsCut.unique gear (.inr ⟨h32, h1, by omega, by omega, fun n a b => hm n a (by omega), .inr (.inr he)⟩) (isCut_cutN gear s)
        rw [this]
      · rw [if_neg (fun h => he ((hash_ends s (i + 1)).1 h))]
        refine cut_l0 s hs h32 d (i + 1) k (by omega) (by omega) fun m a b => ?_
        by_cases hmi : m = i + 1
        · subst hmi; simpa using he
        · exact hm m a (by omega)
    · rw [if_neg (by omega)]
      exact cut_l0 s hs h32 d (i + 1) k (by omega) (by omega) fun m a b => by omega
theorem cut_some (s : ByteArray) (hs : s.size ≤ 140737488351232) (k : Nat) (hk : 1026 ≤ k) : chunk_Cut.f k s = some ((cutN gear s : Nat) : Int) := by
  unfold chunk_Cut.f
  by_cases h : s.size ≤ 32
  · rw [if_pos (by omega)]
    have : s.size = cutN gear s := IsCut.unique gear (.inl ⟨h, rfl⟩) (isCut_cutN gear s)
    rw [← this]
  · rw [if_neg (by omega)]
    exact cut_l0 s hs (by omega) (min s.size 512) 0 k (by omega) (by omega) fun m a b => by omega
end
section
open Go.Shelf Go.Proofs.YtobkpglenpoacaaC Go.Proofs.YtobkpglenpoacaaR
noncomputable def boxSize (Bs : Nat) (W : World) : Nat := match W.cell? ⟨Bs, 0, none⟩ with | some (.string s) => s.size | _ => 0
theorem boxSize_eq {Bs : Nat} {W : World} {s : ByteArray} {T : TypeId} (h : Boxed W Bs T (.string s)) : boxSize Bs W = s.size := by unfold boxSize; rw [h.cell]
theorem boxed_drewN {W : World} {Bs : Nat} {T : TypeId} {v : Value} (n : Nat) (h : Boxed W Bs T v) : Boxed (W.drewN n) Bs T v := h
theorem grown_drewN (W : World) (n : Nat) (row : Option Nat) : W.grownBy (W.drewN n) row := ⟨rfl, rfl, rfl, Nat.le_refl _, fun _ _ _ => rfl⟩
attribute [local go_sem] Oper.semAt_some

set_option maxRecDepth 100000 in
set_option maxHeartbeats 1000000 in
theorem all1_in (n : Nat) (hn : 1 ≤ n) (l Bs : Nat) (s0 : ByteArray) (hs : s0.size ≤ 140737488351232) (J Jx : List ByteArray → World → Prop)
    (hJd : ∀ pre W W', J pre W → W.grownBy W' none → J pre W') (hJc : AbidesBox Bs J)
    (hY : ∀ pre x W1, J pre W1 → pre ++ [x] <+: chunks gear s0 → YieldAt Fence.wide (n - 1) Try.prog l #[.string x] W1 fun e W' =>
      (e = .returned (.bool true) ∧ J (pre ++ [x]) W' ∧ ∀ v, Boxed W1 Bs 9 v → Boxed W' Bs 9 v) ∨ (e = .returned (.bool false) ∧ Jx (pre ++ [x]) W'))
    (W : World) (hb : Boxed W Bs 9 (.string s0)) (h0 : J [] W) :
    CallsIn Fence.wide n Try.prog 56 #[.func (.yield l) #[] #[], .pointer (some ⟨Bs, 0, none⟩)] W fun e W' => (∃ v, e = .returned v) ∧
      ((∃ ys, ys = chunks gear s0 ∧ J ys W') ∨ (∃ pre, pre <+: chunks gear s0 ∧ Jx pre W')) := by
  refine callsIn_of_wp Try.func56 rfl trivial ?_ rfl
  simp only [Try.ntmps56, List.size_toArray, List.length_cons, List.length_nil, Nat.reduceAdd, Nat.reduceSub, Array.replicate_succ, Array.replicate_zero, List.push_toArray, List.append_toArray, List.nil_append, List.cons_append]
  gi_wp2
  gi_loopw [3] (fun _ wr => ∃ (pre : List ByteArray) (rest : ByteArray), rest.size ≤ 140737488351232 ∧ Aside0 (chunks gear s0 = pre ++ chunks gear rest) ∧ Boxed wr Bs 9 (.string rest) ∧ J pre wr)
    (fun _ wr => boxSize Bs wr)
  case atStart => exact ⟨[], s0, hs, ⟨by simp⟩, hb, h0⟩
  case round =>
    obtain ⟨pre, rest, hsz, hx, hbx, hJ⟩ := hrel
    have hc := hbx.cell
    have htl : rest.toList.length = rest.size := by rw [ByteArray.toList_eq]; exact data_length rest
    by_cases hz : rest.size = 0
    · have hz1 : rest.toList = [] := List.eq_nil_of_length_eq_zero (by omega)
      clear htl
      gi_wp2
      go_end0
      exact ⟨⟨_, rfl⟩, .inl ⟨pre, by rw [hx.out, chunks_nil gear hz]; simp, hJ⟩⟩
    · have hz1 : rest.toList.isEmpty = false := by cases h : rest.toList with
        | nil => rw [h] at htl; simp at htl; omega
        | cons _ _ => rfl
      clear htl
      have hcut1 := cutN_pos gear rest (by omega)
      have hcut2 := cutN_le gear rest
      obtain ⟨c, hcd⟩ : ∃ c, c = cutN gear rest := ⟨_, rfl⟩
      rw [← hcd] at hcut1 hcut2
      have HX : Aside0 (chunks gear s0 = pre ++ rest.extract 0 c :: chunks gear (rest.extract c rest.size)) := ⟨by rw [hx.out, chunks_cons gear (by omega), hcd]⟩
      have HC : Aside0 (chunk_Cut.f 1026 rest = some ((c : Nat) : Int)) := ⟨by rw [hcd]; exact cut_some rest hsz 1026 (Nat.le_refl _)⟩
      clear hcd
      gi_wp2
      refine ⟨trivial, ?_⟩
      refine (callsIn_wide.2 (chunk_Cut.calls 1026 rest _ _ HC.out)).mono ?_
      rintro e w' ⟨rfl, hbw⟩
      have hgw := grown_of_below hbw none
      have hJ2 := hJd _ _ _ hJ hgw
      have hbx2 : Boxed w' Bs 9 (.string rest) := hbx.kept hgw (by simp)
      have hc2 := hbx2.cell
      obtain ⟨fn, tmps, assign, body, hy, hR⟩ := hY pre (rest.extract 0 c) w' hJ2 ⟨chunks gear (rest.extract c rest.size), by rw [HX.out]; simp⟩
      clear hbw hgw hc
      gi_wp2
      refine hR.mono ?_
      clear hy
      rintro e W3 (⟨rfl, hJ3, hk3⟩ | ⟨rfl, hJx3⟩)
      · have hbx3 := hk3 _ hbx2
        have hc3 := hbx3.cell
        have hf3 := hbx3.frozen
        clear hk3 hR
        have HB3 := Aside0.mk hbx3
        gi_wp2
        go_roundw
        case rel => exact ⟨pre ++ [rest.extract 0 c], rest.extract c rest.size, by rw [ByteArray.size_extract]; omega, ⟨by rw [HX.out]; simp⟩, HB3.out.set _, hJc _ _ _ hJ3⟩
        case measure => rw [boxSize_eq (HB3.out.set _), boxSize_eq hbx, ByteArray.size_extract]; omega
      · gi_wp2
        refine bodyPost_ret (results_none rfl _ _ _) rfl ?_
        exact ⟨⟨_, rfl⟩, .inr ⟨pre ++ [rest.extract 0 c], ⟨chunks gear (rest.extract c rest.size), by rw [HX.out]; simp⟩, hJx3⟩⟩

theorem all_in (n : Nat) (s : ByteArray) (w : World) :
    CallsIn Fence.wide n Try.prog 39 #[.string s] w fun e w' => e = .returned (.func (.func 56) #[] #[.pointer (some ⟨w.heap.size, 0, none⟩)]) ∧ w' = w.alloc (.cells #[.string s] 9) := by
  refine callsIn_of_wp Try.func39 rfl trivial ?_ rfl
  simp only [Try.ntmps39, List.size_toArray, List.length_cons, List.length_nil, Nat.reduceAdd, Nat.reduceSub, Array.replicate_succ, Array.replicate_zero, List.push_toArray, List.append_toArray, List.nil_append, List.cons_append]
  gi_wp2
  go_ret
  exact ⟨rfl, rfl⟩

theorem all_seq (n : Nat) (hn : 1 ≤ n) (Bs : Nat) (s0 : ByteArray) (hs : s0.size ≤ 140737488351232) (w : World) (hb : Boxed w Bs 9 (.string s0)) :
    SeqCap Fence.wide n Try.prog 56 #[.pointer (some ⟨Bs, 0, none⟩)] (fun x : ByteArray => #[Value.string x]) Bs 9 (fun ys => ys = chunks gear s0) (fun pre => pre <+: chunks gear s0) (fun pre x => pre ++ [x] <+: chunks gear s0) w :=
  fun l J Jx W hW hJ _ hJc _ hY h0 => all1_in n hn l Bs s0 hs J Jx (fun pre A B hA hg => hJ pre A B none hA hg (fun r e => by cases e)) hJc hY W (hb.kept (grown_of_below hW none) (by simp)) h0

theorem infoStr : (Try.prog.info? 9).map (fun i => (i.zero, i.size, i.bytes)) = some (some (.string ⟨#[]⟩), 1, 16) := by kernel_rfl
theorem row_box {W : World} {B Bs n₀ e k : Nat} {v u : Value} {xs : List Value} {t : TypeId} (hb : Boxed W B t v) (hr : W.ownsRow n₀ e 1 v k xs) (hne : B ≠ Bs) (hn : Bs < n₀) :
    Boxed (W.setCell ⟨Bs, 0, none⟩ u) B t v ∧ (W.setCell ⟨Bs, 0, none⟩ u).ownsRow n₀ e 1 v k xs := by
  refine ⟨hb.kept (grownBy_setCell' W Bs u) (fun h => hne (by cases h; rfl)), hr.kept (grownBy_setCell' W Bs u) (.inr fun h => ?_)⟩
  have := own_base hr Bs (by rw [← h])
  omega

def HoldList (w : World) (pre : List ByteArray) (W : World) : Prop :=
  (∃ v, Boxed W w.heap.size 25 v ∧ W.ownsRow (w.heap.size + 2) 9 1 v pre.length (pre.map Value.string) ∧ (True : Prop)) ∧ Below w.heap.size w W ∧ w.heap.size + 2 ≤ W.heap.size

set_option maxRecDepth 100000 in
set_option maxHeartbeats 2000000 in
theorem list_any (s : ByteArray) (hs : s.size ≤ 140737488351232) (w : World) :
    Calls Try.prog 13 #[.string s] w fun e W' => ∃ v, e = .returned v ∧ W'.ownsRow w.heap.size 9 1 v (chunks gear s).length ((chunks gear s).map Value.string) ∧ Below w.heap.size w W' := by
  refine (callsIn_wide (n := 5)).1 ?_
  obtain ⟨i0, hi, hz0, hz1, hz2⟩ := info_parts infoStr
  refine callsIn_of_wp_marks Try.func13 rfl trivial ?_ rfl
  simp only [Try.ntmps13, List.size_toArray, List.length_cons, List.length_nil, Nat.reduceAdd, Nat.reduceSub, Array.replicate_succ, Array.replicate_zero, List.push_toArray, List.append_toArray, List.nil_append, List.cons_append]
  gi_wp2
  refine ⟨trivial, ?_⟩
  refine (all_in _ _ _).mono ?_
  rintro e w' ⟨rfl, rfl⟩
  have bO := Boxed.new w 25 (.slice none 0 0)
  have bN := Boxed.new (w.alloc (.cells #[.slice none 0 0] 25)) 9 (.string s)
  rw [World.size_alloc] at bN
  have hB0 : Below w.heap.size w ((w.alloc (.cells #[.slice none 0 0] 25)).alloc (.cells #[.string s] 9)) := ((Below.refl _ w).alloc (Nat.le_refl _) _).alloc (by simp) _
  gi_wp2
  refine wpIn_range_cap rfl (by omega) (gf := 56) (lb := #[.pointer (some ⟨w.heap.size + 1, 0, none⟩)]) rfl trivial (enters_of Try.func56 (by kernel_rfl) rfl)
    (all_seq _ (by omega) (w.heap.size + 1) s hs _ bN) (Below.refl _ _) (by simp) (fun _ => rfl)
    (HoldList w) (fun _ _ _ => False)
    (OwnFrom.and (Own.from (holdsRow_own (w.heap.size + 2) w.heap.size 25 9 1 (fun pre : List ByteArray => pre.length) (fun pre => pre.map Value.string) (fun _ _ => True)) _) (OwnFrom.and (ownFrom_below (Nat.le_refl _) (by simp; omega)) (fun _ _ _ _ hs hg _ => Nat.le_trans hs hg.size)))
    (fun _ _ _ _ _ hs _ _ => hs)
    (fun pre W u h => by
      obtain ⟨⟨v, h1, h2, h3⟩, h4, h5⟩ := h
      have := row_box (u := u) h1 h2 (Bs := w.heap.size + 1) (by omega) (by omega)
      exact ⟨⟨v, this.1, this.2, h3⟩, h4.setCell (p := ⟨w.heap.size + 1, 0, none⟩) (by simp) u, Nat.le_trans h5 (grownBy_setCell' W _ u).size⟩)
    (fun _ _ _ _ h => h)
    ⟨⟨_, bO.alloc _, World.ownsRow_nil _ _ _ _, trivial⟩, hB0, by simp⟩
    (fun x => { tmps := #[.string s, undef, .slice none 0 0, .pointer (some ⟨w.heap.size, 0, none⟩), .string x, .string s, .func (.func 56) #[] #[.pointer (some ⟨w.heap.size + 1, 0, none⟩)], .string x, undef, undef, undef, undef, undef], defers := [] }) ?assign ?body ?done ?stop
  case assign =>
    intro l x W K hK
    gi_wp2
    exact hK
  case body =>
    rintro l pre x W ⟨⟨v, hv, hrow, -⟩, hB, hW2⟩ hpre
    have hc := hv.cell
    have hpl : pre.length + 1 ≤ (chunks gear s).length := by have := hpre.length_le; simpa using this
    have hcl := chunks_len32 gear s
    gi_wp2_with (gi_at_builtin; refine wpListIn_append_own _ rfl _ _ 25 rfl (w.heap.size + 2) 9 i0 (.string ⟨#[]⟩) 1 16 Try.underlying25 hi hz0 hz1 hz2 rfl (by decide) _ _ _ rfl (hrow.alloc _) ⟨W.heap.size, 0, none⟩ 1 1 [.string x] rfl rfl (cell_one_new _ _ _) (by simp [Value.oneCell']) (by unfold maxLen; omega) (by omega) (by simp; omega) ?_; intro v' w1 hown' hgrow _; obtain ⟨g', cap', rfl⟩ := ownsRow_succ hown'; obtain ⟨hv1, hv2, hr2, hk2, hb2⟩ := hv.appended (by decide) (own_weaken hrow (show w.heap.size ≤ w.heap.size + 2 by omega)) hB.size (Nat.le_refl _) (own_weaken hown' (show w.heap.size ≤ w.heap.size + 2 by omega)) hgrow; have hc1 := hv1.cell; have hf1 := hv1.frozen)
    have hne : some (w.heap.size + 1) ≠ v.ownBlock := fun e => by have := own_base hrow (w.heap.size + 1) e.symm; omega
    exact ⟨hk2.from _, fun u hu => ((hu.alloc _).kept hgrow hne).other (by omega) _, ⟨_, hv2, by simpa using hown'.kept (grownBy_setCell' w1 w.heap.size _) (.inr (hv1.not_row (by decide) hown').symm), trivial⟩, hB.trans hb2, Nat.le_trans hW2 hb2.size⟩
  case done =>
    rintro D ys W hD rfl ⟨⟨v, hv, hrow, -⟩, hB, -⟩ hK
    have hc := hv.cell
    gi_wp2
    refine ⟨by simp, .inl ⟨_, _, rfl, run_takeDeferred hK, ?_⟩⟩
    exact ⟨_, results_tmp rfl _ _ _, v, rfl, own_weaken (ownsRow_putObj hrow _ hK rfl) (by omega), hB.trans (belowK_b (w := w) (Nat.le_refl _) W D _ _ (by simp at hD; omega) hK rfl rfl)⟩
  case stop =>
    rintro D c pre W _ _ h _
    exact h.elim

end
def chunk_List.f (a0 : ByteArray) : Option (List ByteArray) := if a0.size ≤ 140737488351232 then some (Go.Proofs.YtobkpglenpoacaaC.chunks gear a0) else none
theorem chunk_List.calls (a0 : ByteArray) (r : List ByteArray) (w : World) (h : chunk_List.f a0 = some r) :
    Calls Try.prog 13 #[.string a0] w fun e w' => ∃ v0_ : Value, e = .returned (v0_) ∧ Kd.R Kd.string 9 w' w.heap.size (fun _ => True) v0_ r ∧ Below w.heap.size w w' := by
  unfold chunk_List.f at h
  split at h
  · rename_i hs
    obtain rfl := Option.some.inj h
    exact (list_any a0 hs w).mono fun e w' ⟨v, he, ho, hb⟩ => ⟨v, he, Kd.R_of_own ho (fun _ _ => trivial), hb⟩
  · cases h

/-! ### arbourlaw08_awake: function 14 -/
def arbourlaw08_awake.f (k : Nat)  : Option (Bool) := (chunk_List.f (⟨#[115, 104, 111, 114, 116]⟩ : ByteArray)).bind fun t108 => (if (t108.length : Int) = 1 then (if 0 < (t108.length : Int) then (if (rdOf ByteArray.empty t108 0).toList = ([115, 104, 111, 114, 116] : List UInt8) then ((chunk_Cut.f k (⟨#[115, 104, 111, 114, 116]⟩ : ByteArray)).bind fun t112 => (some (t112 == 5))) else (some false)) else (none)) else (some false))
theorem arbourlaw08_awake.mono : ∀ k, LeO (arbourlaw08_awake.f k ) (arbourlaw08_awake.f (k + 1) ) := by
  intro  k
  unfold arbourlaw08_awake.f
  repeat' first
      | (with_reducible exact chunk_Cut.mono _ _)
      | (with_reducible exact LeO.refl _)
      | (with_reducible exact LeO.none _)
      | (with_reducible refine LeO.ite ?_ ?_)
      | (with_reducible refine LeO.bind ?_ (fun _ => ?_))
      | exact chunk_Cut.mono _ _
      | exact LeO.none _
      | refine LeO.ite ?_ ?_
      | refine LeO.bind ?_ (fun _ => ?_)
set_option maxHeartbeats 8000000 in
set_option maxRecDepth 100000 in
theorem arbourlaw08_awake.calls (k : Nat)  (r : Bool) (w : World) (h : arbourlaw08_awake.f k  = some r) :
    Calls Try.prog 14 #[] w fun e w' => e = .returned (.bool r) ∧ Below w.heap.size w w' := by
  have HB := Aside0.mk (Below.refl w.heap.size w)
  have H : ((chunk_List.f (⟨#[115, 104, 111, 114, 116]⟩ : ByteArray)).bind fun t108 => (if (t108.length : Int) = 1 then (if 0 < (t108.length : Int) then (if (rdOf ByteArray.empty t108 0).toList = ([115, 104, 111, 114, 116] : List UInt8) then ((chunk_Cut.f k (⟨#[115, 104, 111, 114, 116]⟩ : ByteArray)).bind fun t112 => (some (t112 == 5))) else (some false)) else (none)) else (some false))) = some r := h
  clear h
  replace H := Option.bind_eq_some_iff.mp H
  obtain ⟨t108, A10, H⟩ := H
  replace H : (if (t108.length : Int) = 1 then (if 0 < (t108.length : Int) then (if (rdOf ByteArray.empty t108 0).toList = ([115, 104, 111, 114, 116] : List UInt8) then ((chunk_Cut.f k (⟨#[115, 104, 111, 114, 116]⟩ : ByteArray)).bind fun t112 => (some (t112 == 5))) else (some false)) else (none)) else (some false)) = some r := H
  have A1 := Aside0.mk A10
  clear A10
  by_cases c2 : (t108.length : Int) = 1
  · rw [if_pos c2] at H
    have c2b0 : ((t108.length : Int) == 1) = true := beq_iff_eq.mpr c2
    have c2b1 : ((t108.length : Int) != 1) = false := bne_eq_false_iff_eq.mpr c2
    clear c2
    by_cases c3 : 0 < (t108.length : Int)
    · rw [if_pos c3] at H
      have c3b0 : decide (0 < (t108.length : Int)) = true := decide_eq_true c3
      have c3b1 : decide (0 < t108.length) = true := decide_eq_true (by omega)
      clear c3
      by_cases c4 : (rdOf ByteArray.empty t108 0).toList = ([115, 104, 111, 114, 116] : List UInt8)
      · rw [if_pos c4] at H
        have c4b0 : ((rdOf ByteArray.empty t108 0).toList == ([115, 104, 111, 114, 116] : List UInt8)) = true := beq_iff_eq.mpr c4
        have c4b1 : ((rdOf ByteArray.empty t108 0).toList != ([115, 104, 111, 114, 116] : List UInt8)) = false := bne_eq_false_iff_eq.mpr c4
        clear c4
        replace H := Option.bind_eq_some_iff.mp H
        obtain ⟨t112, A50, H⟩ := H
        replace H : (some (t112 == 5)) = some r := H
        have A5 := Aside0.mk A50
        clear A50
        obtain rfl := Option.some.inj H
        go_enter Try.func14, Try.ntmps14
        go_wp2_with (first | ((with_reducible refine gate_callee (f := 13) rfl ?_); refine goesL_ (some 2) rfl rfl Try.func13 (by kernel_rfl) rfl #[.string (⟨#[115, 104, 111, 114, 116]⟩ : ByteArray)] rfl (by (try simp only [List.map_toArray, List.map_cons, List.map_nil]); first | done | rfl | (simp only [List.length_drop, List.length_take]; rfl)) ?_; (with_reducible refine (chunk_List.calls (⟨#[115, 104, 111, 114, 116]⟩ : ByteArray) t108 _ A1.out).mono ?_); rintro e w6 ⟨v109, rfl, ho0, hb⟩; refine ⟨_, rfl, ?_⟩; have n0_ := Aside0.mk (Kd.R_lower ho0 (below_size (by repeat (first | (with_reducible first | exact HB.out | apply below_alloc | apply pw_below_drewN | apply below_drew1) | exact HB.out)))); have n1_ := Aside0.mk (below_step (by repeat (first | (with_reducible first | exact HB.out | apply below_alloc | apply pw_below_drewN | apply below_drew1) | exact HB.out)) hb); clear HB; have HO110 := n0_; have HB := n1_; clear n0_ n1_; (try clear hb); (try clear hb2); (try clear hk); (try clear hi); (try clear ho0); obtain ⟨Ao7, co7, eo7⟩ := Kd.R_slice HO110.out; subst eo7; have p111 : 0 ≤ (0 : Int) := (by omega); have q111 : 0 < (t108.length : Int) := of_decide_eq_true (by first | (with_reducible assumption) | assumption); obtain ⟨ad111, e111, hx111_0⟩ := Kd.at_string (Kd.R_reads' HO110.out).2.2 0 p111 q111; cases e111; have qi111 : (0 < t108.length) = True := eq_true (by omega); (try rw [show ((0 : Int)).toNat = 0 from rfl] at hx111_0); (try rw [Addr.add_zero'] at hx111_0); replace p111 := eq_true p111; replace q111 := eq_true q111) | (go_at_call 15; (with_reducible refine (chunk_Cut.calls k (⟨#[115, 104, 111, 114, 116]⟩ : ByteArray) t112 _ A5.out).mono ?_); rintro e w8 ⟨rfl, hb⟩; have n0_ := Aside0.mk (Kd.R_below (by (with_reducible repeat (first | apply Kd.R_alloc | apply Kd.R_drewN | apply Kd.R_drew)); exact HO110.out) hb); have n1_ := Aside0.mk (below_step (by repeat (first | (with_reducible first | exact HB.out | apply below_alloc | apply pw_below_drewN | apply below_drew1) | exact HB.out)) hb); clear HO110; clear HB; have HO110 := n0_; have HB := n1_; clear n0_ n1_; (try clear hb); (try clear hb2); (try clear hk); (try clear hi)))
        go_ret
        exact ⟨by first | rfl | (simp [errW_none, errW_some] <;> rfl) | (simp [*, errW_none, errW_some] <;> rfl), by repeat (first | (with_reducible first | exact HB.out | apply below_alloc | apply pw_below_drewN | apply below_drew1) | exact HB.out)⟩
      · rw [if_neg c4] at H
        have c4b0 : ((rdOf ByteArray.empty t108 0).toList == ([115, 104, 111, 114, 116] : List UInt8)) = false := beq_eq_false_iff_ne.mpr c4
        have c4b1 : ((rdOf ByteArray.empty t108 0).toList != ([115, 104, 111, 114, 116] : List UInt8)) = true := bne_iff_ne.mpr c4
        obtain rfl := Option.some.inj H
        go_enter Try.func14, Try.ntmps14
        go_wp2_with (first | ((with_reducible refine gate_callee (f := 13) rfl ?_); refine goesL_ (some 2) rfl rfl Try.func13 (by kernel_rfl) rfl #[.string (⟨#[115, 104, 111, 114, 116]⟩ : ByteArray)] rfl (by (try simp only [List.map_toArray, List.map_cons, List.map_nil]); first | done | rfl | (simp only [List.length_drop, List.length_take]; rfl)) ?_; (with_reducible refine (chunk_List.calls (⟨#[115, 104, 111, 114, 116]⟩ : ByteArray) t108 _ A1.out).mono ?_); rintro e w9 ⟨v109, rfl, ho0, hb⟩; refine ⟨_, rfl, ?_⟩; have n0_ := Aside0.mk (Kd.R_lower ho0 (below_size (by repeat (first | (with_reducible first | exact HB.out | apply below_alloc | apply pw_below_drewN | apply below_drew1) | exact HB.out)))); have n1_ := Aside0.mk (below_step (by repeat (first | (with_reducible first | exact HB.out | apply below_alloc | apply pw_below_drewN | apply below_drew1) | exact HB.out)) hb); clear HB; have HO110 := n0_; have HB := n1_; clear n0_ n1_; (try clear hb); (try clear hb2); (try clear hk); (try clear hi); (try clear ho0); obtain ⟨Ao10, co10, eo10⟩ := Kd.R_slice HO110.out; subst eo10; have p111 : 0 ≤ (0 : Int) := (by omega); have q111 : 0 < (t108.length : Int) := of_decide_eq_true (by first | (with_reducible assumption) | assumption); obtain ⟨ad111, e111, hx111_0⟩ := Kd.at_string (Kd.R_reads' HO110.out).2.2 0 p111 q111; cases e111; have qi111 : (0 < t108.length) = True := eq_true (by omega); (try rw [show ((0 : Int)).toNat = 0 from rfl] at hx111_0); (try rw [Addr.add_zero'] at hx111_0); replace p111 := eq_true p111; replace q111 := eq_true q111))
        go_ret
        exact ⟨by first | rfl | (simp [errW_none, errW_some] <;> rfl) | (simp [*, errW_none, errW_some] <;> rfl), by repeat (first | (with_reducible first | exact HB.out | apply below_alloc | apply pw_below_drewN | apply below_drew1) | exact HB.out)⟩
    · rw [if_neg c3] at H
      exact absurd H (by simp)
  · rw [if_neg c2] at H
    have c2b0 : ((t108.length : Int) == 1) = false := beq_eq_false_iff_ne.mpr c2
    have c2b1 : ((t108.length : Int) != 1) = true := bne_iff_ne.mpr c2
    obtain rfl := Option.some.inj H
    go_enter Try.func14, Try.ntmps14
    go_wp2_with (first | ((with_reducible refine gate_callee (f := 13) rfl ?_); refine goesL_ (some 2) rfl rfl Try.func13 (by kernel_rfl) rfl #[.string (⟨#[115, 104, 111, 114, 116]⟩ : ByteArray)] rfl (by (try simp only [List.map_toArray, List.map_cons, List.map_nil]); first | done | rfl | (simp only [List.length_drop, List.length_take]; rfl)) ?_; (with_reducible refine (chunk_List.calls (⟨#[115, 104, 111, 114, 116]⟩ : ByteArray) t108 _ A1.out).mono ?_); rintro e w11 ⟨v109, rfl, ho0, hb⟩; refine ⟨_, rfl, ?_⟩; have n0_ := Aside0.mk (Kd.R_lower ho0 (below_size (by repeat (first | (with_reducible first | exact HB.out | apply below_alloc | apply pw_below_drewN | apply below_drew1) | exact HB.out)))); have n1_ := Aside0.mk (below_step (by repeat (first | (with_reducible first | exact HB.out | apply below_alloc | apply pw_below_drewN | apply below_drew1) | exact HB.out)) hb); clear HB; have HO110 := n0_; have HB := n1_; clear n0_ n1_; (try clear hb); (try clear hb2); (try clear hk); (try clear hi); (try clear ho0); obtain ⟨Ao12, co12, eo12⟩ := Kd.R_slice HO110.out; subst eo12))
    go_ret
    exact ⟨by first | rfl | (simp [errW_none, errW_some] <;> rfl) | (simp [*, errW_none, errW_some] <;> rfl), by repeat (first | (with_reducible first | exact HB.out | apply below_alloc | apply pw_below_drewN | apply below_drew1) | exact HB.out)⟩

/-! ### chunk_Join: function 27 -/
def chunk_Join.l0 : Nat → ByteArray → List ByteArray → Int → Int → Option (ByteArray × Bool)
  | 0, _, _, _, _ => none
  | k + 1, x4, x7, x8, x9 => if x9 < x8 then (if 0 ≤ x9 then (if x9 < (x7.length : Int) then (if ((rdOf ByteArray.empty x7 x9).size : Int) > (wrap64 (8192 - (x4.size : Int))) then (some ((⟨#[]⟩ : ByteArray), false)) else (if x4.size + (rdOf ByteArray.empty x7 x9).size ≤ 9223372036854775807 then (chunk_Join.l0 k (x4 ++ (rdOf ByteArray.empty x7 x9)) x7 x8 (wrap64 (x9 + 1))) else (none))) else (none)) else (none)) else (some (x4, true))
def chunk_Join.f (k : Nat) (l0 : List ByteArray) : Option (ByteArray × Bool) := chunk_Join.l0 k (⟨#[]⟩ : ByteArray) l0 (l0.length : Int) 0
theorem chunk_Join.mono_l : ∀ k, (∀ y0 y1 y2 y3, LeO (chunk_Join.l0 k y0 y1 y2 y3) (chunk_Join.l0 (k + 1) y0 y1 y2 y3))
  | 0 => fun _ _ _ _ r h => by simp [chunk_Join.l0] at h
  | k + 1 => by
    have ih0 := chunk_Join.mono_l k
    · intro y0 y1 y2 y3
      unfold chunk_Join.l0
      repeat' first
      | (with_reducible exact ih0 _ _ _ _)
      | (with_reducible exact LeO.refl _)
      | (with_reducible exact LeO.none _)
      | (with_reducible refine LeO.ite ?_ ?_)
      | (with_reducible refine LeO.bind ?_ (fun _ => ?_))
      | exact ih0 _ _ _ _
      | exact LeO.none _
      | refine LeO.ite ?_ ?_
      | refine LeO.bind ?_ (fun _ => ?_)
theorem chunk_Join.mono : ∀ a0 k, LeO (chunk_Join.f k a0) (chunk_Join.f (k + 1) a0) := by
  intro a0 k
  have ih0 := chunk_Join.mono_l k
  unfold chunk_Join.f
  repeat' first
      | (with_reducible exact ih0 _ _ _ _)
      | (with_reducible exact LeO.refl _)
      | (with_reducible exact LeO.none _)
      | (with_reducible refine LeO.ite ?_ ?_)
      | (with_reducible refine LeO.bind ?_ (fun _ => ?_))
      | exact ih0 _ _ _ _
      | exact LeO.none _
      | refine LeO.ite ?_ ?_
      | refine LeO.bind ?_ (fun _ => ?_)
set_option maxHeartbeats 8000000 in
set_option maxRecDepth 100000 in
theorem chunk_Join.calls (k : Nat) (A0 : Option Addr) (c0 : Nat) (l0 : List ByteArray) (r1 : ByteArray) (r2 : Bool) (w : World) (hr0 : Kd.C Kd.string w A0 l0.length l0) (hc0 : l0.length ≤ c0) (h : chunk_Join.f k l0 = some (r1, r2)) :
    Calls Try.prog 27 #[.slice A0 l0.length c0] w fun e w' => e = .returned (.tuple #[.string r1, .bool r2]) ∧ Drawn0 w w' := by
  have HR0 := Aside0.mk hr0
  have HC0 := Aside0.mk hc0
  clear hr0 hc0
  have H : (chunk_Join.l0 k (⟨#[]⟩ : ByteArray) l0 (l0.length : Int) 0) = some (r1, r2) := h
  clear h
  have H' := Aside0.mk H
  clear H
  go_enter Try.func27, Try.ntmps27
  go_wp2
  go_loopg [4, 9] k (fun kq v4 v9 w' => ∃ (x4_1 : ByteArray) (x9_1 : Int), v4 = .string x4_1 ∧ v9 = .int .i64 x9_1 ∧ Aside0 (chunk_Join.l0 kq x4_1 l0 (l0.length : Int) x9_1 = some (r1, r2)) ∧ Aside0 (kq ≤ k) ∧ Drawn0 w w')
  case atStart => exact ⟨((⟨#[]⟩ : ByteArray)), (0), (by first | rfl | (simp; done) | (simp [*]; done)), (by first | rfl | (simp; done) | (simp [*]; done)), H', ⟨Nat.le_refl _⟩, by repeat (first | exact Drawn0.refl _ | apply Drawn0.step)⟩
  case round =>
    clear H'
    obtain ⟨x4_1, x9_1, rfl, rfl, HA, HK1, ⟨m1, rfl⟩⟩ := hrel
    cases gk with
    | zero => exact absurd HA.out (by simp [chunk_Join.l0])
    | succ k1 =>
      have H := HA.out
      clear HA
      simp only [chunk_Join.l0] at H
      by_cases c2 : x9_1 < (l0.length : Int)
      · rw [if_pos c2] at H
        have c2b0 : decide (x9_1 < (l0.length : Int)) = true := decide_eq_true c2
        clear c2
        by_cases c3 : 0 ≤ x9_1
        · rw [if_pos c3] at H
          have c3b0 : decide (0 ≤ x9_1) = true := decide_eq_true c3
          clear c3
          by_cases c4 : x9_1 < (l0.length : Int)
          · rw [if_pos c4] at H
            have c4b0 : decide (x9_1 < (l0.length : Int)) = true := decide_eq_true c4
            clear c4
            by_cases c5 : ((rdOf ByteArray.empty l0 x9_1).size : Int) > (wrap64 (8192 - (x4_1.size : Int)))
            · rw [if_pos c5] at H
              have c5b0 : decide ((wrap64 (8192 - (x4_1.size : Int))) < ((rdOf ByteArray.empty l0 x9_1).size : Int)) = true := decide_eq_true c5
              try (have c5b0y := c5b0; rw [show wrap64 (8192 - (x4_1.size : Int)) = (8192 - (x4_1.size : Int)) from by unfold wrap64; omega] at c5b0y)
              clear c5
              simp only [Option.some.injEq, Prod.mk.injEq] at H
              obtain ⟨rfl, rfl⟩ := H
              have p113 : 0 ≤ (x9_1 : Int) := of_decide_eq_true (by first | (with_reducible assumption) | assumption)
              have q113 : x9_1 < (l0.length : Int) := of_decide_eq_true (by first | (with_reducible assumption) | assumption)
              obtain ⟨ad113, e113, hx113_0⟩ := Kd.at_string HR0.out x9_1 p113 q113
              cases e113
              replace p113 := eq_true p113
              replace q113 := eq_true q113
              try (have c5b0w := c5b0; rw [show wrap64 (8192 - (x4_1.size : Int)) = (8192 - (x4_1.size : Int)) from by unfold wrap64; omega] at c5b0w)
              go_wp2
              go_ret2
              exact ⟨by first | rfl | (simp; done) | (simp [*]; done), by repeat (first | exact Drawn0.refl _ | apply Drawn0.step)⟩
            · rw [if_neg c5] at H
              have c5b0 : decide ((wrap64 (8192 - (x4_1.size : Int))) < ((rdOf ByteArray.empty l0 x9_1).size : Int)) = false := decide_eq_false c5
              try (have c5b0y := c5b0; rw [show wrap64 (8192 - (x4_1.size : Int)) = (8192 - (x4_1.size : Int)) from by unfold wrap64; omega] at c5b0y)
              clear c5
              by_cases c6 : x4_1.size + (rdOf ByteArray.empty l0 x9_1).size ≤ 9223372036854775807
              · rw [if_pos c6] at H
                have c6b0 := eq_true c6
                have c6b1 : decide (x4_1.size + (rdOf ByteArray.empty l0 x9_1).size ≤ 9223372036854775807) = true := decide_eq_true c6
                try have c6b2 : (9223372036854775807 < x4_1.size + (rdOf ByteArray.empty l0 x9_1).size) = False := eq_false (Nat.not_lt.2 c6)
                have H' := Aside0.mk H
                clear H
                have p113 : 0 ≤ (x9_1 : Int) := of_decide_eq_true (by first | (with_reducible assumption) | assumption)
                have q113 : x9_1 < (l0.length : Int) := of_decide_eq_true (by first | (with_reducible assumption) | assumption)
                obtain ⟨ad113, e113, hx113_0⟩ := Kd.at_string HR0.out x9_1 p113 q113
                cases e113
                replace p113 := eq_true p113
                replace q113 := eq_true q113
                try (have c5b0w := c5b0; rw [show wrap64 (8192 - (x4_1.size : Int)) = (8192 - (x4_1.size : Int)) from by unfold wrap64; omega] at c5b0w)
                go_wp2
                go_roundg k1
                case measure => have := HK1.out; omega
                case rel => exact ⟨(x4_1 ++ (rdOf ByteArray.empty l0 x9_1)), (wrap64 (x9_1 + 1)), (by first | rfl | (simp; done) | (simp [*]; done)), (by first | rfl | (simp; done) | (simp [*]; done)), H', ⟨by have := HK1.out; omega⟩, by repeat (first | exact Drawn0.refl _ | apply Drawn0.step)⟩
              · rw [if_neg c6] at H
                exact absurd H (by simp)
          · rw [if_neg c4] at H
            exact absurd H (by simp)
        · rw [if_neg c3] at H
          exact absurd H (by simp)
      · rw [if_neg c2] at H
        have c2b0 : decide (x9_1 < (l0.length : Int)) = false := decide_eq_false c2
        clear c2
        simp only [Option.some.injEq, Prod.mk.injEq] at H
        obtain ⟨rfl, rfl⟩ := H
        go_wp2
        go_ret2
        exact ⟨by first | rfl | (simp; done) | (simp [*]; done), by repeat (first | exact Drawn0.refl _ | apply Drawn0.step)⟩

end Go.Proofs.Ytobkpglenpoacaa.XChunkJoins
