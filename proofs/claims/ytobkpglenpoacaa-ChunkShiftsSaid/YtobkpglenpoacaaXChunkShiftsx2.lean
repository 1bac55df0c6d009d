-- Written by this session's program xprint.py: the print, with contracts proved by hand among its texts. Not trusted: Lean checks it.
import Derived.Test.YtobkpglenpoacaaXChunkShiftsx0
import Derived.Test.YtobkpglenpoacaaXChunkShiftsx1
namespace Go.Proofs.Ytobkpglenpoacaa.XChunkShifts
open Go.RowKit Go.Proofs.YtobkpglenpoacaaW.PrintWords Go.Proofs.YtobkpglenpoacaaW.PrintLast Go.Proofs.YtobkpglenpoacaaW.PrintMore
attribute [local go_sem] max2_int min2_int max_two min_two max_three min_three max_four min_four   -- for this text's walks alone
set_option linter.unusedVariables false
set_option linter.unusedSimpArgs false

/-! ### arbourlaw08_ChunkShifts: function 3 -/
mutual
def arbourlaw08_ChunkShifts.l0 : Nat → ByteArray → ByteArray → ByteArray → List ByteArray → List ByteArray → Int → Int → Int → Int → Option (Bool)
  | 0, _, _, _, _, _, _, _, _, _ => none
  | k + 1, x7, x8, x9, x10, x11, x12, x13, x14, x15 => if x12 < (x10.length : Int) then (if x13 < (x11.length : Int) then (arbourlaw08_ChunkShifts.j1 k x7 x8 x9 x10 x11 x12 x13 x14 x15 ((wrap64 ((x8.size : Int) - x14)) != (wrap64 ((x9.size : Int) - x15)))) else (arbourlaw08_ChunkShifts.j1 k x7 x8 x9 x10 x11 x12 x13 x14 x15 false)) else (arbourlaw08_ChunkShifts.j1 k x7 x8 x9 x10 x11 x12 x13 x14 x15 false)
def arbourlaw08_ChunkShifts.j1 : Nat → ByteArray → ByteArray → ByteArray → List ByteArray → List ByteArray → Int → Int → Int → Int → Bool → Option (Bool)
  | 0, _, _, _, _, _, _, _, _, _, _ => none
  | k + 1, x7, x8, x9, x10, x11, x12, x13, x14, x15, x54 => if x54 = true then (if (wrap64 ((x8.size : Int) - x14)) > (wrap64 ((x9.size : Int) - x15)) then (if 0 ≤ x12 then (if x12 < (x10.length : Int) then (arbourlaw08_ChunkShifts.l0 k x7 x8 x9 x10 x11 (wrap64 (x12 + 1)) x13 (wrap64 (x14 + ((rdOf ByteArray.empty x10 x12).size : Int))) x15) else (none)) else (none)) else (if 0 ≤ x13 then (if x13 < (x11.length : Int) then (arbourlaw08_ChunkShifts.l0 k x7 x8 x9 x10 x11 x12 (wrap64 (x13 + 1)) x14 (wrap64 (x15 + ((rdOf ByteArray.empty x11 x13).size : Int)))) else (none)) else (none))) else ((arbourlaw08_awake.f k).bind fun t124 => (if t124 = true then (if (wrap64 ((x8.size : Int) - x14)) > (x7.size : Int) then (some true) else (arbourlaw08_ChunkShifts.l1 k x8 x9 x10 x11 x12 x13 x14 x15)) else (some false)))
def arbourlaw08_ChunkShifts.l1 : Nat → ByteArray → ByteArray → List ByteArray → List ByteArray → Int → Int → Int → Int → Option (Bool)
  | 0, _, _, _, _, _, _, _, _ => none
  | k + 1, x8, x9, x10, x11, x12, x13, x14, x15 => if x12 < (x10.length : Int) then (arbourlaw08_ChunkShifts.j3 k x8 x9 x10 x11 x12 x13 x14 x15 (decide (x13 < (x11.length : Int)))) else (arbourlaw08_ChunkShifts.j3 k x8 x9 x10 x11 x12 x13 x14 x15 false)
def arbourlaw08_ChunkShifts.j3 : Nat → ByteArray → ByteArray → List ByteArray → List ByteArray → Int → Int → Int → Int → Bool → Option (Bool)
  | 0, _, _, _, _, _, _, _, _, _ => none
  | k + 1, x8, x9, x10, x11, x12, x13, x14, x15, x100 => if x100 = true then (if 0 ≤ x12 then (if x12 < (x10.length : Int) then (if 0 ≤ x13 then (if x13 < (x11.length : Int) then (if (rdOf ByteArray.empty x10 x12).toList = (rdOf ByteArray.empty x11 x13).toList then (arbourlaw08_ChunkShifts.l1 k x8 x9 x10 x11 (wrap64 (x12 + 1)) (wrap64 (x13 + 1)) x14 x15) else (some false)) else (none)) else (none)) else (none)) else (none)) else (if ((x12 == (x10.length : Int)) == (x13 == (x11.length : Int))) = true then (some true) else (some ((wrap64 ((x8.size : Int) - x14)) != (wrap64 ((x9.size : Int) - x15)))))
end
def arbourlaw08_ChunkShifts.f (k : Nat) (a0 : ByteArray) (a1 : ByteArray) (a2 : Int) : Option (Bool) := (arbourlaw08_Text.f k a2 700).bind fun t113 => ((arbourlaw08_few.f k a0 (Go.bits .xor .u64 a2 1) 0).bind fun t114 => (if t114.size + t113.size ≤ 9223372036854775807 then ((arbourlaw08_few.f k a1 (Go.bits .xor .u64 a2 2) 0).bind fun t115 => (if t115.size + t113.size ≤ 9223372036854775807 then ((chunk_List.f (t114 ++ t113)).bind fun t116 => ((chunk_List.f (t115 ++ t113)).bind fun t119 => (arbourlaw08_ChunkShifts.l0 k t113 (t114 ++ t113) (t115 ++ t113) t116 t119 0 0 0 0))) else (none))) else (none)))
theorem arbourlaw08_ChunkShifts.mono_l : ∀ k, (∀ y0 y1 y2 y3 y4 y5 y6 y7 y8, LeO (arbourlaw08_ChunkShifts.l0 k y0 y1 y2 y3 y4 y5 y6 y7 y8) (arbourlaw08_ChunkShifts.l0 (k + 1) y0 y1 y2 y3 y4 y5 y6 y7 y8)) ∧ (∀ y0 y1 y2 y3 y4 y5 y6 y7 y8 y9, LeO (arbourlaw08_ChunkShifts.j1 k y0 y1 y2 y3 y4 y5 y6 y7 y8 y9) (arbourlaw08_ChunkShifts.j1 (k + 1) y0 y1 y2 y3 y4 y5 y6 y7 y8 y9)) ∧ (∀ y0 y1 y2 y3 y4 y5 y6 y7, LeO (arbourlaw08_ChunkShifts.l1 k y0 y1 y2 y3 y4 y5 y6 y7) (arbourlaw08_ChunkShifts.l1 (k + 1) y0 y1 y2 y3 y4 y5 y6 y7)) ∧ (∀ y0 y1 y2 y3 y4 y5 y6 y7 y8, LeO (arbourlaw08_ChunkShifts.j3 k y0 y1 y2 y3 y4 y5 y6 y7 y8) (arbourlaw08_ChunkShifts.j3 (k + 1) y0 y1 y2 y3 y4 y5 y6 y7 y8))
  | 0 => ⟨fun _ _ _ _ _ _ _ _ _ r h => by simp [arbourlaw08_ChunkShifts.l0] at h, fun _ _ _ _ _ _ _ _ _ _ r h => by simp [arbourlaw08_ChunkShifts.j1] at h, fun _ _ _ _ _ _ _ _ r h => by simp [arbourlaw08_ChunkShifts.l1] at h, fun _ _ _ _ _ _ _ _ _ r h => by simp [arbourlaw08_ChunkShifts.j3] at h⟩
  | k + 1 => by
    obtain ⟨ih0, ih1, ih2, ih3⟩ := arbourlaw08_ChunkShifts.mono_l k
    refine ⟨?_, ?_, ?_, ?_⟩
    · intro y0 y1 y2 y3 y4 y5 y6 y7 y8
      unfold arbourlaw08_ChunkShifts.l0
      repeat' first
      | (with_reducible exact ih0 _ _ _ _ _ _ _ _ _)
      | (with_reducible exact ih1 _ _ _ _ _ _ _ _ _ _)
      | (with_reducible exact ih2 _ _ _ _ _ _ _ _)
      | (with_reducible exact ih3 _ _ _ _ _ _ _ _ _)
      | (with_reducible exact arbourlaw08_Text.mono _ _ _)
      | (with_reducible exact arbourlaw08_awake.mono _)
      | (with_reducible exact arbourlaw08_few.mono _ _ _ _)
      | (with_reducible exact LeO.refl _)
      | (with_reducible exact LeO.none _)
      | (with_reducible refine LeO.ite ?_ ?_)
      | (with_reducible refine LeO.bind ?_ (fun _ => ?_))
      | exact ih0 _ _ _ _ _ _ _ _ _
      | exact ih1 _ _ _ _ _ _ _ _ _ _
      | exact ih2 _ _ _ _ _ _ _ _
      | exact ih3 _ _ _ _ _ _ _ _ _
      | exact arbourlaw08_Text.mono _ _ _
      | exact arbourlaw08_awake.mono _
      | exact arbourlaw08_few.mono _ _ _ _
      | exact LeO.none _
      | refine LeO.ite ?_ ?_
      | refine LeO.bind ?_ (fun _ => ?_)
    · intro y0 y1 y2 y3 y4 y5 y6 y7 y8 y9
      unfold arbourlaw08_ChunkShifts.j1
      repeat' first
      | (with_reducible exact ih0 _ _ _ _ _ _ _ _ _)
      | (with_reducible exact ih1 _ _ _ _ _ _ _ _ _ _)
      | (with_reducible exact ih2 _ _ _ _ _ _ _ _)
      | (with_reducible exact ih3 _ _ _ _ _ _ _ _ _)
      | (with_reducible exact arbourlaw08_Text.mono _ _ _)
      | (with_reducible exact arbourlaw08_awake.mono _)
      | (with_reducible exact arbourlaw08_few.mono _ _ _ _)
      | (with_reducible exact LeO.refl _)
      | (with_reducible exact LeO.none _)
      | (with_reducible refine LeO.ite ?_ ?_)
      | (with_reducible refine LeO.bind ?_ (fun _ => ?_))
      | exact ih0 _ _ _ _ _ _ _ _ _
      | exact ih1 _ _ _ _ _ _ _ _ _ _
      | exact ih2 _ _ _ _ _ _ _ _
      | exact ih3 _ _ _ _ _ _ _ _ _
      | exact arbourlaw08_Text.mono _ _ _
      | exact arbourlaw08_awake.mono _
      | exact arbourlaw08_few.mono _ _ _ _
      | exact LeO.none _
      | refine LeO.ite ?_ ?_
      | refine LeO.bind ?_ (fun _ => ?_)
    · intro y0 y1 y2 y3 y4 y5 y6 y7
      unfold arbourlaw08_ChunkShifts.l1
      repeat' first
      | (with_reducible exact ih0 _ _ _ _ _ _ _ _ _)
      | (with_reducible exact ih1 _ _ _ _ _ _ _ _ _ _)
      | (with_reducible exact ih2 _ _ _ _ _ _ _ _)
      | (with_reducible exact ih3 _ _ _ _ _ _ _ _ _)
      | (with_reducible exact arbourlaw08_Text.mono _ _ _)
      | (with_reducible exact arbourlaw08_awake.mono _)
      | (with_reducible exact arbourlaw08_few.mono _ _ _ _)
      | (with_reducible exact LeO.refl _)
      | (with_reducible exact LeO.none _)
      | (with_reducible refine LeO.ite ?_ ?_)
      | (with_reducible refine LeO.bind ?_ (fun _ => ?_))
      | exact ih0 _ _ _ _ _ _ _ _ _
      | exact ih1 _ _ _ _ _ _ _ _ _ _
      | exact ih2 _ _ _ _ _ _ _ _
      | exact ih3 _ _ _ _ _ _ _ _ _
      | exact arbourlaw08_Text.mono _ _ _
      | exact arbourlaw08_awake.mono _
      | exact arbourlaw08_few.mono _ _ _ _
      | exact LeO.none _
      | refine LeO.ite ?_ ?_
      | refine LeO.bind ?_ (fun _ => ?_)
    · intro y0 y1 y2 y3 y4 y5 y6 y7 y8
      unfold arbourlaw08_ChunkShifts.j3
      repeat' first
      | (with_reducible exact ih0 _ _ _ _ _ _ _ _ _)
      | (with_reducible exact ih1 _ _ _ _ _ _ _ _ _ _)
      | (with_reducible exact ih2 _ _ _ _ _ _ _ _)
      | (with_reducible exact ih3 _ _ _ _ _ _ _ _ _)
      | (with_reducible exact arbourlaw08_Text.mono _ _ _)
      | (with_reducible exact arbourlaw08_awake.mono _)
      | (with_reducible exact arbourlaw08_few.mono _ _ _ _)
      | (with_reducible exact LeO.refl _)
      | (with_reducible exact LeO.none _)
      | (with_reducible refine LeO.ite ?_ ?_)
      | (with_reducible refine LeO.bind ?_ (fun _ => ?_))
      | exact ih0 _ _ _ _ _ _ _ _ _
      | exact ih1 _ _ _ _ _ _ _ _ _ _
      | exact ih2 _ _ _ _ _ _ _ _
      | exact ih3 _ _ _ _ _ _ _ _ _
      | exact arbourlaw08_Text.mono _ _ _
      | exact arbourlaw08_awake.mono _
      | exact arbourlaw08_few.mono _ _ _ _
      | exact LeO.none _
      | refine LeO.ite ?_ ?_
      | refine LeO.bind ?_ (fun _ => ?_)
theorem arbourlaw08_ChunkShifts.mono : ∀ a0 a1 a2 k, LeO (arbourlaw08_ChunkShifts.f k a0 a1 a2) (arbourlaw08_ChunkShifts.f (k + 1) a0 a1 a2) := by
  intro a0 a1 a2 k
  obtain ⟨ih0, ih1, ih2, ih3⟩ := arbourlaw08_ChunkShifts.mono_l k
  unfold arbourlaw08_ChunkShifts.f
  repeat' first
      | (with_reducible exact ih0 _ _ _ _ _ _ _ _ _)
      | (with_reducible exact ih1 _ _ _ _ _ _ _ _ _ _)
      | (with_reducible exact ih2 _ _ _ _ _ _ _ _)
      | (with_reducible exact ih3 _ _ _ _ _ _ _ _ _)
      | (with_reducible exact arbourlaw08_Text.mono _ _ _)
      | (with_reducible exact arbourlaw08_awake.mono _)
      | (with_reducible exact arbourlaw08_few.mono _ _ _ _)
      | (with_reducible exact LeO.refl _)
      | (with_reducible exact LeO.none _)
      | (with_reducible refine LeO.ite ?_ ?_)
      | (with_reducible refine LeO.bind ?_ (fun _ => ?_))
      | exact ih0 _ _ _ _ _ _ _ _ _
      | exact ih1 _ _ _ _ _ _ _ _ _ _
      | exact ih2 _ _ _ _ _ _ _ _
      | exact ih3 _ _ _ _ _ _ _ _ _
      | exact arbourlaw08_Text.mono _ _ _
      | exact arbourlaw08_awake.mono _
      | exact arbourlaw08_few.mono _ _ _ _
      | exact LeO.none _
      | refine LeO.ite ?_ ?_
      | refine LeO.bind ?_ (fun _ => ?_)
set_option maxHeartbeats 8000000 in
set_option maxRecDepth 100000 in
theorem arbourlaw08_ChunkShifts.calls (k : Nat) (a0 : ByteArray) (a1 : ByteArray) (a2 : Int) (r : Bool) (w : World) (h : arbourlaw08_ChunkShifts.f k a0 a1 a2 = some r) :
    Calls Try.prog 3 #[.string a0, .string a1, .int .u64 a2] w fun e w' => e = .returned (.bool r) ∧ Below w.heap.size w w' := by
  have HB := Aside0.mk (Below.refl w.heap.size w)
  have H : ((arbourlaw08_Text.f k a2 700).bind fun t113 => ((arbourlaw08_few.f k a0 (Go.bits .xor .u64 a2 1) 0).bind fun t114 => (if t114.size + t113.size ≤ 9223372036854775807 then ((arbourlaw08_few.f k a1 (Go.bits .xor .u64 a2 2) 0).bind fun t115 => (if t115.size + t113.size ≤ 9223372036854775807 then ((chunk_List.f (t114 ++ t113)).bind fun t116 => ((chunk_List.f (t115 ++ t113)).bind fun t119 => (arbourlaw08_ChunkShifts.l0 k t113 (t114 ++ t113) (t115 ++ t113) t116 t119 0 0 0 0))) else (none))) else (none)))) = some r := h
  clear h
  replace H := Option.bind_eq_some_iff.mp H
  obtain ⟨t113, A40, H⟩ := H
  replace H : ((arbourlaw08_few.f k a0 (Go.bits .xor .u64 a2 1) 0).bind fun t114 => (if t114.size + t113.size ≤ 9223372036854775807 then ((arbourlaw08_few.f k a1 (Go.bits .xor .u64 a2 2) 0).bind fun t115 => (if t115.size + t113.size ≤ 9223372036854775807 then ((chunk_List.f (t114 ++ t113)).bind fun t116 => ((chunk_List.f (t115 ++ t113)).bind fun t119 => (arbourlaw08_ChunkShifts.l0 k t113 (t114 ++ t113) (t115 ++ t113) t116 t119 0 0 0 0))) else (none))) else (none))) = some r := H
  have A4 := Aside0.mk A40
  clear A40
  replace H := Option.bind_eq_some_iff.mp H
  obtain ⟨t114, A50, H⟩ := H
  replace H : (if t114.size + t113.size ≤ 9223372036854775807 then ((arbourlaw08_few.f k a1 (Go.bits .xor .u64 a2 2) 0).bind fun t115 => (if t115.size + t113.size ≤ 9223372036854775807 then ((chunk_List.f (t114 ++ t113)).bind fun t116 => ((chunk_List.f (t115 ++ t113)).bind fun t119 => (arbourlaw08_ChunkShifts.l0 k t113 (t114 ++ t113) (t115 ++ t113) t116 t119 0 0 0 0))) else (none))) else (none)) = some r := H
  have A5 := Aside0.mk A50
  clear A50
  by_cases c6 : t114.size + t113.size ≤ 9223372036854775807
  · rw [if_pos c6] at H
    have c6b0 := eq_true c6
    have c6b1 : decide (t114.size + t113.size ≤ 9223372036854775807) = true := decide_eq_true c6
    try have c6b2 : (9223372036854775807 < t114.size + t113.size) = False := eq_false (Nat.not_lt.2 c6)
    replace H := Option.bind_eq_some_iff.mp H
    obtain ⟨t115, A70, H⟩ := H
    replace H : (if t115.size + t113.size ≤ 9223372036854775807 then ((chunk_List.f (t114 ++ t113)).bind fun t116 => ((chunk_List.f (t115 ++ t113)).bind fun t119 => (arbourlaw08_ChunkShifts.l0 k t113 (t114 ++ t113) (t115 ++ t113) t116 t119 0 0 0 0))) else (none)) = some r := H
    have A7 := Aside0.mk A70
    clear A70
    by_cases c8 : t115.size + t113.size ≤ 9223372036854775807
    · rw [if_pos c8] at H
      have c8b0 := eq_true c8
      have c8b1 : decide (t115.size + t113.size ≤ 9223372036854775807) = true := decide_eq_true c8
      try have c8b2 : (9223372036854775807 < t115.size + t113.size) = False := eq_false (Nat.not_lt.2 c8)
      replace H := Option.bind_eq_some_iff.mp H
      obtain ⟨t116, A90, H⟩ := H
      replace H : ((chunk_List.f (t115 ++ t113)).bind fun t119 => (arbourlaw08_ChunkShifts.l0 k t113 (t114 ++ t113) (t115 ++ t113) t116 t119 0 0 0 0)) = some r := H
      have A9 := Aside0.mk A90
      clear A90
      replace H := Option.bind_eq_some_iff.mp H
      obtain ⟨t119, A100, H⟩ := H
      replace H : (arbourlaw08_ChunkShifts.l0 k t113 (t114 ++ t113) (t115 ++ t113) t116 t119 0 0 0 0) = some r := H
      have A10 := Aside0.mk A100
      clear A100
      have H' := Aside0.mk H
      clear H
      go_enter Try.func3, Try.ntmps3
      go_wp2_with (first | (go_at_call 11; (with_reducible refine (arbourlaw08_Text.calls k a2 700 t113 _ A4.out).mono ?_); rintro e w11 ⟨rfl, hb⟩; have n0_ := Aside0.mk (below_step (by repeat (first | (with_reducible first | exact HB.out | apply below_alloc | apply pw_below_drewN | apply below_drew1) | exact HB.out)) hb); clear HB; have HB := n0_; clear n0_; (try clear hb); (try clear hb2); (try clear hk); (try clear hi)) | (go_at_call 12; (with_reducible refine (arbourlaw08_few.calls k a0 (Go.bits .xor .u64 a2 1) 0 t114 _ A5.out).mono ?_); rintro e w12 ⟨rfl, hb⟩; have n0_ := Aside0.mk (below_step (by repeat (first | (with_reducible first | exact HB.out | apply below_alloc | apply pw_below_drewN | apply below_drew1) | exact HB.out)) hb); clear HB; have HB := n0_; clear n0_; (try clear hb); (try clear hb2); (try clear hk); (try clear hi)) | (go_at_call 12; (with_reducible refine (arbourlaw08_few.calls k a1 (Go.bits .xor .u64 a2 2) 0 t115 _ A7.out).mono ?_); rintro e w13 ⟨rfl, hb⟩; have n0_ := Aside0.mk (below_step (by repeat (first | (with_reducible first | exact HB.out | apply below_alloc | apply pw_below_drewN | apply below_drew1) | exact HB.out)) hb); clear HB; have HB := n0_; clear n0_; (try clear hb); (try clear hb2); (try clear hk); (try clear hi)) | (go_at_call 13; (with_reducible refine (chunk_List.calls (t114 ++ t113) t116 _ A9.out).mono ?_); rintro e w14 ⟨v117, rfl, ho0, hb⟩; have n0_ := Aside0.mk (Kd.R_lower ho0 (below_size (by repeat (first | (with_reducible first | exact HB.out | apply below_alloc | apply pw_below_drewN | apply below_drew1) | exact HB.out)))); have n1_ := Aside0.mk (below_step (by repeat (first | (with_reducible first | exact HB.out | apply below_alloc | apply pw_below_drewN | apply below_drew1) | exact HB.out)) hb); clear HB; have HO118 := n0_; have HB := n1_; clear n0_ n1_; (try clear hb); (try clear hb2); (try clear hk); (try clear hi); (try clear ho0)) | (go_at_call 13; (with_reducible refine (chunk_List.calls (t115 ++ t113) t119 _ A10.out).mono ?_); rintro e w15 ⟨v120, rfl, ho0, hb⟩; have n0_ := Aside0.mk (Kd.R_elder' (by (with_reducible repeat (first | apply Kd.R_alloc | apply Kd.R_drewN | apply Kd.R_drew)); exact HO118.out) (Kd.R_base ho0) hb); have n1_ := Aside0.mk (Kd.R_lower (Kd.R_new' ho0 (Kd.R_lt (by (with_reducible repeat (first | apply Kd.R_alloc | apply Kd.R_drewN | apply Kd.R_drew)); exact HO118.out))) (below_size (by repeat (first | (with_reducible first | exact HB.out | apply below_alloc | apply pw_below_drewN | apply below_drew1) | exact HB.out)))); have n2_ := Aside0.mk (below_step (by repeat (first | (with_reducible first | exact HB.out | apply below_alloc | apply pw_below_drewN | apply below_drew1) | exact HB.out)) hb); clear HO118; clear HB; have HO118 := n0_; have HO121 := n1_; have HB := n2_; clear n0_ n1_ n2_; (try clear hb); (try clear hb2); (try clear hk); (try clear hi); (try clear ho0)))
      repeat (go_quiet (first | (go_at_call 11; (with_reducible refine (arbourlaw08_Text.calls k a2 700 t113 _ A4.out).mono ?_); rintro e w11 ⟨rfl, hb⟩; have n0_ := Aside0.mk (below_step (by repeat (first | (with_reducible first | exact HB.out | apply below_alloc | apply pw_below_drewN | apply below_drew1) | exact HB.out)) hb); clear HB; have HB := n0_; clear n0_; (try clear hb); (try clear hb2); (try clear hk); (try clear hi)) | (go_at_call 12; (with_reducible refine (arbourlaw08_few.calls k a0 (Go.bits .xor .u64 a2 1) 0 t114 _ A5.out).mono ?_); rintro e w12 ⟨rfl, hb⟩; have n0_ := Aside0.mk (below_step (by repeat (first | (with_reducible first | exact HB.out | apply below_alloc | apply pw_below_drewN | apply below_drew1) | exact HB.out)) hb); clear HB; have HB := n0_; clear n0_; (try clear hb); (try clear hb2); (try clear hk); (try clear hi)) | (go_at_call 12; (with_reducible refine (arbourlaw08_few.calls k a1 (Go.bits .xor .u64 a2 2) 0 t115 _ A7.out).mono ?_); rintro e w13 ⟨rfl, hb⟩; have n0_ := Aside0.mk (below_step (by repeat (first | (with_reducible first | exact HB.out | apply below_alloc | apply pw_below_drewN | apply below_drew1) | exact HB.out)) hb); clear HB; have HB := n0_; clear n0_; (try clear hb); (try clear hb2); (try clear hk); (try clear hi)) | (go_at_call 13; (with_reducible refine (chunk_List.calls (t114 ++ t113) t116 _ A9.out).mono ?_); rintro e w14 ⟨v117, rfl, ho0, hb⟩; have n0_ := Aside0.mk (Kd.R_lower ho0 (below_size (by repeat (first | (with_reducible first | exact HB.out | apply below_alloc | apply pw_below_drewN | apply below_drew1) | exact HB.out)))); have n1_ := Aside0.mk (below_step (by repeat (first | (with_reducible first | exact HB.out | apply below_alloc | apply pw_below_drewN | apply below_drew1) | exact HB.out)) hb); clear HB; have HO118 := n0_; have HB := n1_; clear n0_ n1_; (try clear hb); (try clear hb2); (try clear hk); (try clear hi); (try clear ho0)) | (go_at_call 13; (with_reducible refine (chunk_List.calls (t115 ++ t113) t119 _ A10.out).mono ?_); rintro e w15 ⟨v120, rfl, ho0, hb⟩; have n0_ := Aside0.mk (Kd.R_elder' (by (with_reducible repeat (first | apply Kd.R_alloc | apply Kd.R_drewN | apply Kd.R_drew)); exact HO118.out) (Kd.R_base ho0) hb); have n1_ := Aside0.mk (Kd.R_lower (Kd.R_new' ho0 (Kd.R_lt (by (with_reducible repeat (first | apply Kd.R_alloc | apply Kd.R_drewN | apply Kd.R_drew)); exact HO118.out))) (below_size (by repeat (first | (with_reducible first | exact HB.out | apply below_alloc | apply pw_below_drewN | apply below_drew1) | exact HB.out)))); have n2_ := Aside0.mk (below_step (by repeat (first | (with_reducible first | exact HB.out | apply below_alloc | apply pw_below_drewN | apply below_drew1) | exact HB.out)) hb); clear HO118; clear HB; have HO118 := n0_; have HO121 := n1_; have HB := n2_; clear n0_ n1_ n2_; (try clear hb); (try clear hb2); (try clear hk); (try clear hi); (try clear ho0))); try go_wp2_with (first | (go_at_call 11; (with_reducible refine (arbourlaw08_Text.calls k a2 700 t113 _ A4.out).mono ?_); rintro e w11 ⟨rfl, hb⟩; have n0_ := Aside0.mk (below_step (by repeat (first | (with_reducible first | exact HB.out | apply below_alloc | apply pw_below_drewN | apply below_drew1) | exact HB.out)) hb); clear HB; have HB := n0_; clear n0_; (try clear hb); (try clear hb2); (try clear hk); (try clear hi)) | (go_at_call 12; (with_reducible refine (arbourlaw08_few.calls k a0 (Go.bits .xor .u64 a2 1) 0 t114 _ A5.out).mono ?_); rintro e w12 ⟨rfl, hb⟩; have n0_ := Aside0.mk (below_step (by repeat (first | (with_reducible first | exact HB.out | apply below_alloc | apply pw_below_drewN | apply below_drew1) | exact HB.out)) hb); clear HB; have HB := n0_; clear n0_; (try clear hb); (try clear hb2); (try clear hk); (try clear hi)) | (go_at_call 12; (with_reducible refine (arbourlaw08_few.calls k a1 (Go.bits .xor .u64 a2 2) 0 t115 _ A7.out).mono ?_); rintro e w13 ⟨rfl, hb⟩; have n0_ := Aside0.mk (below_step (by repeat (first | (with_reducible first | exact HB.out | apply below_alloc | apply pw_below_drewN | apply below_drew1) | exact HB.out)) hb); clear HB; have HB := n0_; clear n0_; (try clear hb); (try clear hb2); (try clear hk); (try clear hi)) | (go_at_call 13; (with_reducible refine (chunk_List.calls (t114 ++ t113) t116 _ A9.out).mono ?_); rintro e w14 ⟨v117, rfl, ho0, hb⟩; have n0_ := Aside0.mk (Kd.R_lower ho0 (below_size (by repeat (first | (with_reducible first | exact HB.out | apply below_alloc | apply pw_below_drewN | apply below_drew1) | exact HB.out)))); have n1_ := Aside0.mk (below_step (by repeat (first | (with_reducible first | exact HB.out | apply below_alloc | apply pw_below_drewN | apply below_drew1) | exact HB.out)) hb); clear HB; have HO118 := n0_; have HB := n1_; clear n0_ n1_; (try clear hb); (try clear hb2); (try clear hk); (try clear hi); (try clear ho0)) | (go_at_call 13; (with_reducible refine (chunk_List.calls (t115 ++ t113) t119 _ A10.out).mono ?_); rintro e w15 ⟨v120, rfl, ho0, hb⟩; have n0_ := Aside0.mk (Kd.R_elder' (by (with_reducible repeat (first | apply Kd.R_alloc | apply Kd.R_drewN | apply Kd.R_drew)); exact HO118.out) (Kd.R_base ho0) hb); have n1_ := Aside0.mk (Kd.R_lower (Kd.R_new' ho0 (Kd.R_lt (by (with_reducible repeat (first | apply Kd.R_alloc | apply Kd.R_drewN | apply Kd.R_drew)); exact HO118.out))) (below_size (by repeat (first | (with_reducible first | exact HB.out | apply below_alloc | apply pw_below_drewN | apply below_drew1) | exact HB.out)))); have n2_ := Aside0.mk (below_step (by repeat (first | (with_reducible first | exact HB.out | apply below_alloc | apply pw_below_drewN | apply below_drew1) | exact HB.out)) hb); clear HO118; clear HB; have HO118 := n0_; have HO121 := n1_; have HB := n2_; clear n0_ n1_ n2_; (try clear hb); (try clear hb2); (try clear hk); (try clear hi); (try clear ho0))))
      go_loopg [12, 13, 14, 15] k (fun kq v12 v13 v14 v15 w' => ∃ (x12_1 : Int) (x13_1 : Int) (x14_1 : Int) (x15_1 : Int), v12 = .int .i64 x12_1 ∧ v13 = .int .i64 x13_1 ∧ v14 = .int .i64 x14_1 ∧ v15 = .int .i64 x15_1 ∧ Aside0 (arbourlaw08_ChunkShifts.l0 kq t113 (t114 ++ t113) (t115 ++ t113) t116 t119 x12_1 x13_1 x14_1 x15_1 = some r) ∧ Aside0 (kq ≤ k) ∧ Aside0 (Kd.R Kd.string 9 w' w.heap.size (fun k_ => some k_ ≠ (v120 : Value).ownBlock) v117 t116) ∧ Aside0 (Kd.R Kd.string 9 w' w.heap.size (fun k_ => some k_ ≠ (v117 : Value).ownBlock) v120 t119) ∧ Aside0 (Below w.heap.size w w'))
      case atStart => exact ⟨(0), (0), (0), (0), (by first | rfl | (simp; done) | (simp [*]; done)), (by first | rfl | (simp; done) | (simp [*]; done)), (by first | rfl | (simp; done) | (simp [*]; done)), (by first | rfl | (simp; done) | (simp [*]; done)), H', ⟨Nat.le_refl _⟩, ⟨by (with_reducible repeat (first | apply Kd.R_alloc | apply Kd.R_drewN | apply Kd.R_drew)); exact Kd.R_mono HO118.out (fun _ hk => hk.2)⟩, ⟨by (with_reducible repeat (first | apply Kd.R_alloc | apply Kd.R_drewN | apply Kd.R_drew)); exact Kd.R_mono HO121.out (fun _ hk => hk.2)⟩, ⟨by repeat (first | (with_reducible first | exact HB.out | apply below_alloc | apply pw_below_drewN | apply below_drew1) | exact HB.out)⟩⟩
      case round =>
        clear H'
        try clear p2
        try clear c3
        try clear c6
        try clear c6b0
        try clear c6b1
        try clear c6b2
        try clear c8
        try clear c8b0
        try clear c8b1
        try clear c8b2
        obtain ⟨x12_1, x13_1, x14_1, x15_1, rfl, rfl, rfl, rfl, HA, HK1, HO_10, HO_11, HB⟩ := hrel
        cases gk with
        | zero => exact absurd HA.out (by simp [arbourlaw08_ChunkShifts.l0])
        | succ k1 =>
          have H := HA.out
          clear HA
          simp only [arbourlaw08_ChunkShifts.l0] at H
          have HC16 := Aside0.mk H
          clear H
          go_upto_region 5 with (fail)
          repeat (go_quiet (fail); go_upto_region 5 with (fail))
          go_cut [54] (fun v54 wc => ∃ (kq : Nat) (x54_15 : Bool), v54 = .bool x54_15 ∧ Aside0 (arbourlaw08_ChunkShifts.j1 kq t113 (t114 ++ t113) (t115 ++ t113) t116 t119 x12_1 x13_1 x14_1 x15_1 x54_15 = some r) ∧ Aside0 (kq ≤ k1) ∧ Aside0 (Kd.R Kd.string 9 wc w.heap.size (fun k_ => some k_ ≠ (v120 : Value).ownBlock) v117 t116) ∧ Aside0 (Kd.R Kd.string 9 wc w.heap.size (fun k_ => some k_ ≠ (v117 : Value).ownBlock) v120 t119) ∧ Aside0 (Below w.heap.size w wc))
          case first =>
            have H := HC16.out
            clear HC16
            by_cases c17 : x12_1 < (t116.length : Int)
            · rw [if_pos c17] at H
              have c17b0 : decide (x12_1 < (t116.length : Int)) = true := decide_eq_true c17
              clear c17
              (first | rw [c17b0] | (simp only [i64_w, i32_w]; rw [c17b0]) | skip)
              by_cases c18 : x13_1 < (t119.length : Int)
              · rw [if_pos c18] at H
                have c18b0 : decide (x13_1 < (t119.length : Int)) = true := decide_eq_true c18
                clear c18
                have H' := Aside0.mk H
                clear H
                obtain ⟨Ao19, co19, eo19⟩ := Kd.R_slice HO_10.out
                subst eo19
                obtain ⟨Ao20, co20, eo20⟩ := Kd.R_slice HO_11.out
                subst eo20
                go_wp2
                repeat (go_quiet (fail); try go_wp2)
                go_meet
                case rel => exact ⟨_, (((wrap64 (((t114 ++ t113).size : Int) - x14_1)) != (wrap64 (((t115 ++ t113).size : Int) - x15_1)))), (by first | rfl | (simp; done) | (simp [*]; done)), H', ⟨by have := HK1.out; first | omega | exact Nat.le_refl _⟩, ⟨by (with_reducible repeat (first | apply Kd.R_alloc | apply Kd.R_drewN | apply Kd.R_drew)); exact HO_10.out⟩, ⟨by (with_reducible repeat (first | apply Kd.R_alloc | apply Kd.R_drewN | apply Kd.R_drew)); exact HO_11.out⟩, ⟨by repeat (first | (with_reducible first | exact HB.out | apply below_alloc | apply pw_below_drewN | apply below_drew1) | exact HB.out)⟩⟩
              · rw [if_neg c18] at H
                have c18b0 : decide (x13_1 < (t119.length : Int)) = false := decide_eq_false c18
                clear c18
                have H' := Aside0.mk H
                clear H
                obtain ⟨Ao21, co21, eo21⟩ := Kd.R_slice HO_10.out
                subst eo21
                obtain ⟨Ao22, co22, eo22⟩ := Kd.R_slice HO_11.out
                subst eo22
                go_wp2
                repeat (go_quiet (fail); try go_wp2)
                go_meet
                case rel => exact ⟨_, (false), (by first | rfl | (simp; done) | (simp [*]; done)), H', ⟨by have := HK1.out; first | omega | exact Nat.le_refl _⟩, ⟨by (with_reducible repeat (first | apply Kd.R_alloc | apply Kd.R_drewN | apply Kd.R_drew)); exact HO_10.out⟩, ⟨by (with_reducible repeat (first | apply Kd.R_alloc | apply Kd.R_drewN | apply Kd.R_drew)); exact HO_11.out⟩, ⟨by repeat (first | (with_reducible first | exact HB.out | apply below_alloc | apply pw_below_drewN | apply below_drew1) | exact HB.out)⟩⟩
            · rw [if_neg c17] at H
              have c17b0 : decide (x12_1 < (t116.length : Int)) = false := decide_eq_false c17
              clear c17
              (first | rw [c17b0] | (simp only [i64_w, i32_w]; rw [c17b0]) | skip)
              have H' := Aside0.mk H
              clear H
              obtain ⟨Ao23, co23, eo23⟩ := Kd.R_slice HO_10.out
              subst eo23
              go_wp2
              repeat (go_quiet (fail); try go_wp2)
              go_meet
              case rel => exact ⟨_, (false), (by first | rfl | (simp; done) | (simp [*]; done)), H', ⟨by have := HK1.out; first | omega | exact Nat.le_refl _⟩, ⟨by (with_reducible repeat (first | apply Kd.R_alloc | apply Kd.R_drewN | apply Kd.R_drew)); exact HO_10.out⟩, ⟨by (with_reducible repeat (first | apply Kd.R_alloc | apply Kd.R_drewN | apply Kd.R_drew)); exact HO_11.out⟩, ⟨by repeat (first | (with_reducible first | exact HB.out | apply below_alloc | apply pw_below_drewN | apply below_drew1) | exact HB.out)⟩⟩
          case rest =>
            clear HC16
            try clear c1
            try clear p2
            try clear c3
            try clear c6
            try clear c6b0
            try clear c6b1
            try clear c6b2
            try clear p6
            try clear c8
            try clear c8b0
            try clear c8b1
            try clear c8b2
            try clear c17
            try clear c17b0
            try clear c18
            try clear c18b0
            try clear p2
            obtain ⟨kq, x54_15, rfl, HA, HJ15, HO_10, HO_11, HB⟩ := hcut
            cases kq with
            | zero => exact absurd HA.out (by simp [arbourlaw08_ChunkShifts.j1])
            | succ kj15 =>
              have H := HA.out
              clear HA
              simp only [arbourlaw08_ChunkShifts.j1] at H
              by_cases c24 : x54_15 = true
              · subst c24
                have H1 : (if (wrap64 (((t114 ++ t113).size : Int) - x14_1)) > (wrap64 (((t115 ++ t113).size : Int) - x15_1)) then (if 0 ≤ x12_1 then (if x12_1 < (t116.length : Int) then (arbourlaw08_ChunkShifts.l0 kj15 t113 (t114 ++ t113) (t115 ++ t113) t116 t119 (wrap64 (x12_1 + 1)) x13_1 (wrap64 (x14_1 + ((rdOf ByteArray.empty t116 x12_1).size : Int))) x15_1) else (none)) else (none)) else (if 0 ≤ x13_1 then (if x13_1 < (t119.length : Int) then (arbourlaw08_ChunkShifts.l0 kj15 t113 (t114 ++ t113) (t115 ++ t113) t116 t119 x12_1 (wrap64 (x13_1 + 1)) x14_1 (wrap64 (x15_1 + ((rdOf ByteArray.empty t119 x13_1).size : Int)))) else (none)) else (none))) = some r := by rw [if_pos rfl] at H; exact H
                clear H
                have H := H1
                clear H1
                by_cases c25 : (wrap64 (((t114 ++ t113).size : Int) - x14_1)) > (wrap64 (((t115 ++ t113).size : Int) - x15_1))
                · rw [if_pos c25] at H
                  have c25b0 : decide ((wrap64 (((t115 ++ t113).size : Int) - x15_1)) < (wrap64 (((t114 ++ t113).size : Int) - x14_1))) = true := decide_eq_true c25
                  try (have c25b0z := c25b0; simp only [ByteArray.size_append, Int.natCast_add] at c25b0z)
                  clear c25
                  by_cases c26 : 0 ≤ x12_1
                  · rw [if_pos c26] at H
                    have c26b0 : decide (0 ≤ x12_1) = true := decide_eq_true c26
                    clear c26
                    by_cases c27 : x12_1 < (t116.length : Int)
                    · rw [if_pos c27] at H
                      have c27b0 : decide (x12_1 < (t116.length : Int)) = true := decide_eq_true c27
                      clear c27
                      have H' := Aside0.mk H
                      clear H
                      obtain ⟨Ao28, co28, eo28⟩ := Kd.R_slice HO_10.out
                      subst eo28
                      have p122 : 0 ≤ (x12_1 : Int) := of_decide_eq_true (by first | (with_reducible assumption) | assumption)
                      have q122 : x12_1 < (t116.length : Int) := of_decide_eq_true (by first | (with_reducible assumption) | assumption)
                      obtain ⟨ad122, e122, hx122_0⟩ := Kd.at_string (Kd.R_reads' HO_10.out).2.2 x12_1 p122 q122
                      cases e122
                      replace p122 := eq_true p122
                      replace q122 := eq_true q122
                      go_wp2
                      repeat (go_quiet (fail); try go_wp2)
                      go_roundg kj15
                      case measure => have := HK1.out; have := HJ15.out; omega
                      case rel => exact ⟨(wrap64 (x12_1 + 1)), (x13_1), (wrap64 (x14_1 + ((rdOf ByteArray.empty t116 x12_1).size : Int))), (x15_1), (by first | rfl | (simp; done) | (simp [*]; done)), (by first | rfl | (simp; done) | (simp [*]; done)), (by first | rfl | (simp; done) | (simp [*]; done)), (by first | rfl | (simp; done) | (simp [*]; done)), H', ⟨by have := HK1.out; have := HJ15.out; omega⟩, ⟨by (with_reducible repeat (first | apply Kd.R_alloc | apply Kd.R_drewN | apply Kd.R_drew)); exact HO_10.out⟩, ⟨by (with_reducible repeat (first | apply Kd.R_alloc | apply Kd.R_drewN | apply Kd.R_drew)); exact HO_11.out⟩, ⟨by repeat (first | (with_reducible first | exact HB.out | apply below_alloc | apply pw_below_drewN | apply below_drew1) | exact HB.out)⟩⟩
                    · rw [if_neg c27] at H
                      exact absurd H (by simp)
                  · rw [if_neg c26] at H
                    exact absurd H (by simp)
                · rw [if_neg c25] at H
                  have c25b0 : decide ((wrap64 (((t115 ++ t113).size : Int) - x15_1)) < (wrap64 (((t114 ++ t113).size : Int) - x14_1))) = false := decide_eq_false c25
                  try (have c25b0z := c25b0; simp only [ByteArray.size_append, Int.natCast_add] at c25b0z)
                  clear c25
                  by_cases c29 : 0 ≤ x13_1
                  · rw [if_pos c29] at H
                    have c29b0 : decide (0 ≤ x13_1) = true := decide_eq_true c29
                    clear c29
                    by_cases c30 : x13_1 < (t119.length : Int)
                    · rw [if_pos c30] at H
                      have c30b0 : decide (x13_1 < (t119.length : Int)) = true := decide_eq_true c30
                      clear c30
                      have H' := Aside0.mk H
                      clear H
                      obtain ⟨Ao31, co31, eo31⟩ := Kd.R_slice HO_11.out
                      subst eo31
                      have p123 : 0 ≤ (x13_1 : Int) := of_decide_eq_true (by first | (with_reducible assumption) | assumption)
                      have q123 : x13_1 < (t119.length : Int) := of_decide_eq_true (by first | (with_reducible assumption) | assumption)
                      obtain ⟨ad123, e123, hx123_0⟩ := Kd.at_string (Kd.R_reads' HO_11.out).2.2 x13_1 p123 q123
                      cases e123
                      replace p123 := eq_true p123
                      replace q123 := eq_true q123
                      go_wp2
                      repeat (go_quiet (fail); try go_wp2)
                      go_roundg kj15
                      case measure => have := HK1.out; have := HJ15.out; omega
                      case rel => exact ⟨(x12_1), (wrap64 (x13_1 + 1)), (x14_1), (wrap64 (x15_1 + ((rdOf ByteArray.empty t119 x13_1).size : Int))), (by first | rfl | (simp; done) | (simp [*]; done)), (by first | rfl | (simp; done) | (simp [*]; done)), (by first | rfl | (simp; done) | (simp [*]; done)), (by first | rfl | (simp; done) | (simp [*]; done)), H', ⟨by have := HK1.out; have := HJ15.out; omega⟩, ⟨by (with_reducible repeat (first | apply Kd.R_alloc | apply Kd.R_drewN | apply Kd.R_drew)); exact HO_10.out⟩, ⟨by (with_reducible repeat (first | apply Kd.R_alloc | apply Kd.R_drewN | apply Kd.R_drew)); exact HO_11.out⟩, ⟨by repeat (first | (with_reducible first | exact HB.out | apply below_alloc | apply pw_below_drewN | apply below_drew1) | exact HB.out)⟩⟩
                    · rw [if_neg c30] at H
                      exact absurd H (by simp)
                  · rw [if_neg c29] at H
                    exact absurd H (by simp)
              · replace c24 := Bool.eq_false_iff.mpr c24
                subst c24
                have H1 : ((arbourlaw08_awake.f kj15).bind fun t124 => (if t124 = true then (if (wrap64 (((t114 ++ t113).size : Int) - x14_1)) > (t113.size : Int) then (some true) else (arbourlaw08_ChunkShifts.l1 kj15 (t114 ++ t113) (t115 ++ t113) t116 t119 x12_1 x13_1 x14_1 x15_1)) else (some false))) = some r := by rw [if_neg (show ¬ (false = true) by decide)] at H; exact H
                clear H
                have H := H1
                clear H1
                replace H := Option.bind_eq_some_iff.mp H
                obtain ⟨t124, A320, H⟩ := H
                replace H : (if t124 = true then (if (wrap64 (((t114 ++ t113).size : Int) - x14_1)) > (t113.size : Int) then (some true) else (arbourlaw08_ChunkShifts.l1 kj15 (t114 ++ t113) (t115 ++ t113) t116 t119 x12_1 x13_1 x14_1 x15_1)) else (some false)) = some r := H
                have A32 := Aside0.mk A320
                clear A320
                by_cases c33 : t124 = true
                · subst c33
                  have H1 : (if (wrap64 (((t114 ++ t113).size : Int) - x14_1)) > (t113.size : Int) then (some true) else (arbourlaw08_ChunkShifts.l1 kj15 (t114 ++ t113) (t115 ++ t113) t116 t119 x12_1 x13_1 x14_1 x15_1)) = some r := by rw [if_pos rfl] at H; exact H
                  clear H
                  have H := H1
                  clear H1
                  by_cases c34 : (wrap64 (((t114 ++ t113).size : Int) - x14_1)) > (t113.size : Int)
                  · rw [if_pos c34] at H
                    have c34b0 : decide ((t113.size : Int) < (wrap64 (((t114 ++ t113).size : Int) - x14_1))) = true := decide_eq_true c34
                    try (have c34b0z := c34b0; simp only [ByteArray.size_append, Int.natCast_add] at c34b0z)
                    clear c34
                    obtain rfl := Option.some.inj H
                    go_wp2_with (first | (go_at_call 14; (with_reducible refine (arbourlaw08_awake.calls kj15  true _ A32.out).mono ?_); rintro e w35 ⟨rfl, hb⟩; have n0_ := Aside0.mk (Kd.R_below (by (with_reducible repeat (first | apply Kd.R_alloc | apply Kd.R_drewN | apply Kd.R_drew)); exact HO_10.out) hb); have n1_ := Aside0.mk (Kd.R_below (by (with_reducible repeat (first | apply Kd.R_alloc | apply Kd.R_drewN | apply Kd.R_drew)); exact HO_11.out) hb); have n2_ := Aside0.mk (below_step (by repeat (first | (with_reducible first | exact HB.out | apply below_alloc | apply pw_below_drewN | apply below_drew1) | exact HB.out)) hb); clear HO_10; clear HO_11; clear HB; have HO_10 := n0_; have HO_11 := n1_; have HB := n2_; clear n0_ n1_ n2_; (try clear hb); (try clear hb2); (try clear hk); (try clear hi)))
                    repeat (go_quiet (first | (go_at_call 14; (with_reducible refine (arbourlaw08_awake.calls kj15  true _ A32.out).mono ?_); rintro e w35 ⟨rfl, hb⟩; have n0_ := Aside0.mk (Kd.R_below (by (with_reducible repeat (first | apply Kd.R_alloc | apply Kd.R_drewN | apply Kd.R_drew)); exact HO_10.out) hb); have n1_ := Aside0.mk (Kd.R_below (by (with_reducible repeat (first | apply Kd.R_alloc | apply Kd.R_drewN | apply Kd.R_drew)); exact HO_11.out) hb); have n2_ := Aside0.mk (below_step (by repeat (first | (with_reducible first | exact HB.out | apply below_alloc | apply pw_below_drewN | apply below_drew1) | exact HB.out)) hb); clear HO_10; clear HO_11; clear HB; have HO_10 := n0_; have HO_11 := n1_; have HB := n2_; clear n0_ n1_ n2_; (try clear hb); (try clear hb2); (try clear hk); (try clear hi))); try go_wp2_with (first | (go_at_call 14; (with_reducible refine (arbourlaw08_awake.calls kj15  true _ A32.out).mono ?_); rintro e w35 ⟨rfl, hb⟩; have n0_ := Aside0.mk (Kd.R_below (by (with_reducible repeat (first | apply Kd.R_alloc | apply Kd.R_drewN | apply Kd.R_drew)); exact HO_10.out) hb); have n1_ := Aside0.mk (Kd.R_below (by (with_reducible repeat (first | apply Kd.R_alloc | apply Kd.R_drewN | apply Kd.R_drew)); exact HO_11.out) hb); have n2_ := Aside0.mk (below_step (by repeat (first | (with_reducible first | exact HB.out | apply below_alloc | apply pw_below_drewN | apply below_drew1) | exact HB.out)) hb); clear HO_10; clear HO_11; clear HB; have HO_10 := n0_; have HO_11 := n1_; have HB := n2_; clear n0_ n1_ n2_; (try clear hb); (try clear hb2); (try clear hk); (try clear hi))))
                    go_ret
                    exact ⟨by first | rfl | (simp [errW_none, errW_some] <;> rfl) | (simp [*, errW_none, errW_some] <;> rfl), by repeat (first | (with_reducible first | exact HB.out | apply below_alloc | apply pw_below_drewN | apply below_drew1) | exact HB.out)⟩
                  · rw [if_neg c34] at H
                    have c34b0 : decide ((t113.size : Int) < (wrap64 (((t114 ++ t113).size : Int) - x14_1))) = false := decide_eq_false c34
                    try (have c34b0z := c34b0; simp only [ByteArray.size_append, Int.natCast_add] at c34b0z)
                    clear c34
                    have H' := Aside0.mk H
                    clear H
                    go_wp2_with (first | (go_at_call 14; (with_reducible refine (arbourlaw08_awake.calls kj15  true _ A32.out).mono ?_); rintro e w36 ⟨rfl, hb⟩; have n0_ := Aside0.mk (Kd.R_below (by (with_reducible repeat (first | apply Kd.R_alloc | apply Kd.R_drewN | apply Kd.R_drew)); exact HO_10.out) hb); have n1_ := Aside0.mk (Kd.R_below (by (with_reducible repeat (first | apply Kd.R_alloc | apply Kd.R_drewN | apply Kd.R_drew)); exact HO_11.out) hb); have n2_ := Aside0.mk (below_step (by repeat (first | (with_reducible first | exact HB.out | apply below_alloc | apply pw_below_drewN | apply below_drew1) | exact HB.out)) hb); clear HO_10; clear HO_11; clear HB; have HO_10 := n0_; have HO_11 := n1_; have HB := n2_; clear n0_ n1_ n2_; (try clear hb); (try clear hb2); (try clear hk); (try clear hi)))
                    repeat (go_quiet (first | (go_at_call 14; (with_reducible refine (arbourlaw08_awake.calls kj15  true _ A32.out).mono ?_); rintro e w36 ⟨rfl, hb⟩; have n0_ := Aside0.mk (Kd.R_below (by (with_reducible repeat (first | apply Kd.R_alloc | apply Kd.R_drewN | apply Kd.R_drew)); exact HO_10.out) hb); have n1_ := Aside0.mk (Kd.R_below (by (with_reducible repeat (first | apply Kd.R_alloc | apply Kd.R_drewN | apply Kd.R_drew)); exact HO_11.out) hb); have n2_ := Aside0.mk (below_step (by repeat (first | (with_reducible first | exact HB.out | apply below_alloc | apply pw_below_drewN | apply below_drew1) | exact HB.out)) hb); clear HO_10; clear HO_11; clear HB; have HO_10 := n0_; have HO_11 := n1_; have HB := n2_; clear n0_ n1_ n2_; (try clear hb); (try clear hb2); (try clear hk); (try clear hi))); try go_wp2_with (first | (go_at_call 14; (with_reducible refine (arbourlaw08_awake.calls kj15  true _ A32.out).mono ?_); rintro e w36 ⟨rfl, hb⟩; have n0_ := Aside0.mk (Kd.R_below (by (with_reducible repeat (first | apply Kd.R_alloc | apply Kd.R_drewN | apply Kd.R_drew)); exact HO_10.out) hb); have n1_ := Aside0.mk (Kd.R_below (by (with_reducible repeat (first | apply Kd.R_alloc | apply Kd.R_drewN | apply Kd.R_drew)); exact HO_11.out) hb); have n2_ := Aside0.mk (below_step (by repeat (first | (with_reducible first | exact HB.out | apply below_alloc | apply pw_below_drewN | apply below_drew1) | exact HB.out)) hb); clear HO_10; clear HO_11; clear HB; have HO_10 := n0_; have HO_11 := n1_; have HB := n2_; clear n0_ n1_ n2_; (try clear hb); (try clear hb2); (try clear hk); (try clear hi))))
                    go_loopg [12, 13] kj15 (fun kq v12 v13 w' => ∃ (x12_3 : Int) (x13_3 : Int), v12 = .int .i64 x12_3 ∧ v13 = .int .i64 x13_3 ∧ Aside0 (arbourlaw08_ChunkShifts.l1 kq (t114 ++ t113) (t115 ++ t113) t116 t119 x12_3 x13_3 x14_1 x15_1 = some r) ∧ Aside0 (kq ≤ kj15) ∧ Aside0 (Kd.R Kd.string 9 w' w.heap.size (fun k_ => some k_ ≠ (v120 : Value).ownBlock) v117 t116) ∧ Aside0 (Kd.R Kd.string 9 w' w.heap.size (fun k_ => some k_ ≠ (v117 : Value).ownBlock) v120 t119) ∧ Aside0 (Below w.heap.size w w'))
                    case atStart => exact ⟨(x12_1), (x13_1), (by first | rfl | (simp; done) | (simp [*]; done)), (by first | rfl | (simp; done) | (simp [*]; done)), H', ⟨Nat.le_refl _⟩, ⟨by (with_reducible repeat (first | apply Kd.R_alloc | apply Kd.R_drewN | apply Kd.R_drew)); exact HO_10.out⟩, ⟨by (with_reducible repeat (first | apply Kd.R_alloc | apply Kd.R_drewN | apply Kd.R_drew)); exact HO_11.out⟩, ⟨by repeat (first | (with_reducible first | exact HB.out | apply below_alloc | apply pw_below_drewN | apply below_drew1) | exact HB.out)⟩⟩
                    case round =>
                      clear H'
                      try clear c1
                      try clear p1
                      try clear q1
                      try clear hx1
                      try clear c2
                      try clear p2
                      try clear c3
                      try clear c6
                      try clear c6b0
                      try clear c6b1
                      try clear c6b2
                      try clear p6
                      try clear c8
                      try clear c8b0
                      try clear c8b1
                      try clear c8b2
                      try clear p12
                      try clear q12
                      try clear hx12
                      try clear c17
                      try clear c17b0
                      try clear c18
                      try clear c18b0
                      try clear c24
                      try clear c25
                      try clear c25b0
                      try clear c26
                      try clear c26b0
                      try clear c27
                      try clear c27b0
                      try clear c29
                      try clear c29b0
                      try clear c30
                      try clear c30b0
                      try clear c33
                      try clear c34
                      try clear c34b0
                      try clear hx122_0
                      try clear hx123_0
                      try clear p122
                      try clear p123
                      try clear p2
                      try clear p6
                      try clear q122
                      try clear q123
                      obtain ⟨x12_3, x13_3, rfl, rfl, HA, HK3, HO_10, HO_11, HB⟩ := hrel
                      cases gk with
                      | zero => exact absurd HA.out (by simp [arbourlaw08_ChunkShifts.l1])
                      | succ k3 =>
                        have H := HA.out
                        clear HA
                        simp only [arbourlaw08_ChunkShifts.l1] at H
                        have HC37 := Aside0.mk H
                        clear H
                        go_upto_region 15 with (fail)
                        repeat (go_quiet (fail); go_upto_region 15 with (fail))
                        go_cut [100] (fun v100 wc => ∃ (kq : Nat) (x100_36 : Bool), v100 = .bool x100_36 ∧ Aside0 (arbourlaw08_ChunkShifts.j3 kq (t114 ++ t113) (t115 ++ t113) t116 t119 x12_3 x13_3 x14_1 x15_1 x100_36 = some r) ∧ Aside0 (kq ≤ k3) ∧ Aside0 (Kd.R Kd.string 9 wc w.heap.size (fun k_ => some k_ ≠ (v120 : Value).ownBlock) v117 t116) ∧ Aside0 (Kd.R Kd.string 9 wc w.heap.size (fun k_ => some k_ ≠ (v117 : Value).ownBlock) v120 t119) ∧ Aside0 (Below w.heap.size w wc))
                        case first =>
                          have H := HC37.out
                          clear HC37
                          by_cases c38 : x12_3 < (t116.length : Int)
                          · rw [if_pos c38] at H
                            have c38b0 : decide (x12_3 < (t116.length : Int)) = true := decide_eq_true c38
                            clear c38
                            (first | rw [c38b0] | (simp only [i64_w, i32_w]; rw [c38b0]) | skip)
                            have H' := Aside0.mk H
                            clear H
                            obtain ⟨Ao39, co39, eo39⟩ := Kd.R_slice HO_10.out
                            subst eo39
                            obtain ⟨Ao40, co40, eo40⟩ := Kd.R_slice HO_11.out
                            subst eo40
                            go_wp2
                            repeat (go_quiet (fail); try go_wp2)
                            go_meet
                            case rel => exact ⟨_, (decide (x13_3 < (t119.length : Int))), (by first | rfl | (simp; done) | (simp [*]; done)), H', ⟨by have := HK1.out; have := HJ15.out; have := HK3.out; first | omega | exact Nat.le_refl _⟩, ⟨by (with_reducible repeat (first | apply Kd.R_alloc | apply Kd.R_drewN | apply Kd.R_drew)); exact HO_10.out⟩, ⟨by (with_reducible repeat (first | apply Kd.R_alloc | apply Kd.R_drewN | apply Kd.R_drew)); exact HO_11.out⟩, ⟨by repeat (first | (with_reducible first | exact HB.out | apply below_alloc | apply pw_below_drewN | apply below_drew1) | exact HB.out)⟩⟩
                          · rw [if_neg c38] at H
                            have c38b0 : decide (x12_3 < (t116.length : Int)) = false := decide_eq_false c38
                            clear c38
                            (first | rw [c38b0] | (simp only [i64_w, i32_w]; rw [c38b0]) | skip)
                            have H' := Aside0.mk H
                            clear H
                            obtain ⟨Ao41, co41, eo41⟩ := Kd.R_slice HO_10.out
                            subst eo41
                            go_wp2
                            repeat (go_quiet (fail); try go_wp2)
                            go_meet
                            case rel => exact ⟨_, (false), (by first | rfl | (simp; done) | (simp [*]; done)), H', ⟨by have := HK1.out; have := HJ15.out; have := HK3.out; first | omega | exact Nat.le_refl _⟩, ⟨by (with_reducible repeat (first | apply Kd.R_alloc | apply Kd.R_drewN | apply Kd.R_drew)); exact HO_10.out⟩, ⟨by (with_reducible repeat (first | apply Kd.R_alloc | apply Kd.R_drewN | apply Kd.R_drew)); exact HO_11.out⟩, ⟨by repeat (first | (with_reducible first | exact HB.out | apply below_alloc | apply pw_below_drewN | apply below_drew1) | exact HB.out)⟩⟩
                        case rest =>
                          clear HC37
                          try clear c1
                          try clear p1
                          try clear q1
                          try clear hx1
                          try clear c2
                          try clear p2
                          try clear c3
                          try clear c6
                          try clear c6b0
                          try clear c6b1
                          try clear c6b2
                          try clear p6
                          try clear c8
                          try clear c8b0
                          try clear c8b1
                          try clear c8b2
                          try clear p12
                          try clear q12
                          try clear hx12
                          try clear c17
                          try clear c17b0
                          try clear c18
                          try clear c18b0
                          try clear c24
                          try clear c25
                          try clear c25b0
                          try clear c26
                          try clear c26b0
                          try clear c27
                          try clear c27b0
                          try clear c29
                          try clear c29b0
                          try clear c30
                          try clear c30b0
                          try clear c33
                          try clear c34
                          try clear c34b0
                          try clear c38
                          try clear c38b0
                          try clear hx122_0
                          try clear hx123_0
                          try clear p1
                          try clear p12
                          try clear p122
                          try clear p123
                          try clear p2
                          try clear p6
                          try clear q1
                          try clear q12
                          try clear q122
                          try clear q123
                          obtain ⟨kq, x100_36, rfl, HA, HJ36, HO_10, HO_11, HB⟩ := hcut
                          cases kq with
                          | zero => exact absurd HA.out (by simp [arbourlaw08_ChunkShifts.j3])
                          | succ kj36 =>
                            have H := HA.out
                            clear HA
                            simp only [arbourlaw08_ChunkShifts.j3] at H
                            by_cases c42 : x100_36 = true
                            · subst c42
                              have H1 : (if 0 ≤ x12_3 then (if x12_3 < (t116.length : Int) then (if 0 ≤ x13_3 then (if x13_3 < (t119.length : Int) then (if (rdOf ByteArray.empty t116 x12_3).toList = (rdOf ByteArray.empty t119 x13_3).toList then (arbourlaw08_ChunkShifts.l1 kj36 (t114 ++ t113) (t115 ++ t113) t116 t119 (wrap64 (x12_3 + 1)) (wrap64 (x13_3 + 1)) x14_1 x15_1) else (some false)) else (none)) else (none)) else (none)) else (none)) = some r := by rw [if_pos rfl] at H; exact H
                              clear H
                              have H := H1
                              clear H1
                              by_cases c43 : 0 ≤ x12_3
                              · rw [if_pos c43] at H
                                have c43b0 : decide (0 ≤ x12_3) = true := decide_eq_true c43
                                clear c43
                                by_cases c44 : x12_3 < (t116.length : Int)
                                · rw [if_pos c44] at H
                                  have c44b0 : decide (x12_3 < (t116.length : Int)) = true := decide_eq_true c44
                                  clear c44
                                  by_cases c45 : 0 ≤ x13_3
                                  · rw [if_pos c45] at H
                                    have c45b0 : decide (0 ≤ x13_3) = true := decide_eq_true c45
                                    clear c45
                                    by_cases c46 : x13_3 < (t119.length : Int)
                                    · rw [if_pos c46] at H
                                      have c46b0 : decide (x13_3 < (t119.length : Int)) = true := decide_eq_true c46
                                      clear c46
                                      by_cases c47 : (rdOf ByteArray.empty t116 x12_3).toList = (rdOf ByteArray.empty t119 x13_3).toList
                                      · rw [if_pos c47] at H
                                        have c47b0 : ((rdOf ByteArray.empty t116 x12_3).toList == (rdOf ByteArray.empty t119 x13_3).toList) = true := beq_iff_eq.mpr c47
                                        have c47b1 : ((rdOf ByteArray.empty t116 x12_3).toList != (rdOf ByteArray.empty t119 x13_3).toList) = false := bne_eq_false_iff_eq.mpr c47
                                        clear c47
                                        have H' := Aside0.mk H
                                        clear H
                                        obtain ⟨Ao48, co48, eo48⟩ := Kd.R_slice HO_10.out
                                        subst eo48
                                        have p125 : 0 ≤ (x12_3 : Int) := of_decide_eq_true (by first | (with_reducible assumption) | assumption)
                                        have q125 : x12_3 < (t116.length : Int) := of_decide_eq_true (by first | (with_reducible assumption) | assumption)
                                        obtain ⟨ad125, e125, hx125_0⟩ := Kd.at_string (Kd.R_reads' HO_10.out).2.2 x12_3 p125 q125
                                        cases e125
                                        replace p125 := eq_true p125
                                        replace q125 := eq_true q125
                                        obtain ⟨Ao49, co49, eo49⟩ := Kd.R_slice HO_11.out
                                        subst eo49
                                        have p126 : 0 ≤ (x13_3 : Int) := of_decide_eq_true (by first | (with_reducible assumption) | assumption)
                                        have q126 : x13_3 < (t119.length : Int) := of_decide_eq_true (by first | (with_reducible assumption) | assumption)
                                        obtain ⟨ad126, e126, hx126_0⟩ := Kd.at_string (Kd.R_reads' HO_11.out).2.2 x13_3 p126 q126
                                        cases e126
                                        replace p126 := eq_true p126
                                        replace q126 := eq_true q126
                                        go_wp2
                                        repeat (go_quiet (fail); try go_wp2)
                                        go_roundg kj36
                                        case measure => have := HK1.out; have := HJ15.out; have := HK3.out; have := HJ36.out; omega
                                        case rel => exact ⟨(wrap64 (x12_3 + 1)), (wrap64 (x13_3 + 1)), (by first | rfl | (simp; done) | (simp [*]; done)), (by first | rfl | (simp; done) | (simp [*]; done)), H', ⟨by have := HK1.out; have := HJ15.out; have := HK3.out; have := HJ36.out; omega⟩, ⟨by (with_reducible repeat (first | apply Kd.R_alloc | apply Kd.R_drewN | apply Kd.R_drew)); exact HO_10.out⟩, ⟨by (with_reducible repeat (first | apply Kd.R_alloc | apply Kd.R_drewN | apply Kd.R_drew)); exact HO_11.out⟩, ⟨by repeat (first | (with_reducible first | exact HB.out | apply below_alloc | apply pw_below_drewN | apply below_drew1) | exact HB.out)⟩⟩
                                      · rw [if_neg c47] at H
                                        have c47b0 : ((rdOf ByteArray.empty t116 x12_3).toList == (rdOf ByteArray.empty t119 x13_3).toList) = false := beq_eq_false_iff_ne.mpr c47
                                        have c47b1 : ((rdOf ByteArray.empty t116 x12_3).toList != (rdOf ByteArray.empty t119 x13_3).toList) = true := bne_iff_ne.mpr c47
                                        obtain rfl := Option.some.inj H
                                        obtain ⟨Ao50, co50, eo50⟩ := Kd.R_slice HO_10.out
                                        subst eo50
                                        have p125 : 0 ≤ (x12_3 : Int) := of_decide_eq_true (by first | (with_reducible assumption) | assumption)
                                        have q125 : x12_3 < (t116.length : Int) := of_decide_eq_true (by first | (with_reducible assumption) | assumption)
                                        obtain ⟨ad125, e125, hx125_0⟩ := Kd.at_string (Kd.R_reads' HO_10.out).2.2 x12_3 p125 q125
                                        cases e125
                                        replace p125 := eq_true p125
                                        replace q125 := eq_true q125
                                        obtain ⟨Ao51, co51, eo51⟩ := Kd.R_slice HO_11.out
                                        subst eo51
                                        have p126 : 0 ≤ (x13_3 : Int) := of_decide_eq_true (by first | (with_reducible assumption) | assumption)
                                        have q126 : x13_3 < (t119.length : Int) := of_decide_eq_true (by first | (with_reducible assumption) | assumption)
                                        obtain ⟨ad126, e126, hx126_0⟩ := Kd.at_string (Kd.R_reads' HO_11.out).2.2 x13_3 p126 q126
                                        cases e126
                                        replace p126 := eq_true p126
                                        replace q126 := eq_true q126
                                        go_wp2
                                        repeat (go_quiet (fail); try go_wp2)
                                        go_ret
                                        exact ⟨by first | rfl | (simp [errW_none, errW_some] <;> rfl) | (simp [*, errW_none, errW_some] <;> rfl), by repeat (first | (with_reducible first | exact HB.out | apply below_alloc | apply pw_below_drewN | apply below_drew1) | exact HB.out)⟩
                                    · rw [if_neg c46] at H
                                      exact absurd H (by simp)
                                  · rw [if_neg c45] at H
                                    exact absurd H (by simp)
                                · rw [if_neg c44] at H
                                  exact absurd H (by simp)
                              · rw [if_neg c43] at H
                                exact absurd H (by simp)
                            · replace c42 := Bool.eq_false_iff.mpr c42
                              subst c42
                              have H1 : (if ((x12_3 == (t116.length : Int)) == (x13_3 == (t119.length : Int))) = true then (some true) else (some ((wrap64 (((t114 ++ t113).size : Int) - x14_1)) != (wrap64 (((t115 ++ t113).size : Int) - x15_1))))) = some r := by rw [if_neg (show ¬ (false = true) by decide)] at H; exact H
                              clear H
                              have H := H1
                              clear H1
                              by_cases c52 : ((x12_3 == (t116.length : Int)) == (x13_3 == (t119.length : Int))) = true
                              · rw [if_pos c52] at H
                                have c52b0 : ((x12_3 == (t116.length : Int)) == (x13_3 == (t119.length : Int))) = true := c52
                                (try (have c52b1 : decide ((x12_3 == (t116.length : Int)) = (x13_3 == (t119.length : Int))) = true := by simpa using c52))
                                (try (have c52b2 : ((x12_3 == (t116.length : Int)) == (x13_3 == (t119.length : Int))) = true := by simpa using c52))
                                clear c52
                                obtain rfl := Option.some.inj H
                                obtain ⟨Ao53, co53, eo53⟩ := Kd.R_slice HO_10.out
                                subst eo53
                                obtain ⟨Ao54, co54, eo54⟩ := Kd.R_slice HO_11.out
                                subst eo54
                                go_wp2
                                repeat (go_quiet (fail); try go_wp2)
                                go_ret
                                exact ⟨by first | rfl | (simp [errW_none, errW_some] <;> rfl) | (simp [*, errW_none, errW_some] <;> rfl), by repeat (first | (with_reducible first | exact HB.out | apply below_alloc | apply pw_below_drewN | apply below_drew1) | exact HB.out)⟩
                              · rw [if_neg c52] at H
                                have c52b0 : ((x12_3 == (t116.length : Int)) == (x13_3 == (t119.length : Int))) = false := by simpa using c52
                                (try (have c52b1 : decide ((x12_3 == (t116.length : Int)) = (x13_3 == (t119.length : Int))) = false := by simpa using c52))
                                (try (have c52b2 : ((x12_3 == (t116.length : Int)) == (x13_3 == (t119.length : Int))) = false := by simpa using c52))
                                (try (have c52b3 : ¬ ((x12_3 == (t116.length : Int)) = (x13_3 == (t119.length : Int))) := by simpa using c52))
                                clear c52
                                obtain rfl := Option.some.inj H
                                obtain ⟨Ao55, co55, eo55⟩ := Kd.R_slice HO_10.out
                                subst eo55
                                obtain ⟨Ao56, co56, eo56⟩ := Kd.R_slice HO_11.out
                                subst eo56
                                go_wp2
                                repeat (go_quiet (fail); try go_wp2)
                                go_ret
                                exact ⟨by first | rfl | (simp [errW_none, errW_some] <;> rfl) | (simp [*, errW_none, errW_some] <;> rfl), by repeat (first | (with_reducible first | exact HB.out | apply below_alloc | apply pw_below_drewN | apply below_drew1) | exact HB.out)⟩
                · replace c33 := Bool.eq_false_iff.mpr c33
                  subst c33
                  have H1 : (some false) = some r := by rw [if_neg (show ¬ (false = true) by decide)] at H; exact H
                  clear H
                  have H := H1
                  clear H1
                  obtain rfl := Option.some.inj H
                  go_wp2_with (first | (go_at_call 14; (with_reducible refine (arbourlaw08_awake.calls kj15  false _ A32.out).mono ?_); rintro e w57 ⟨rfl, hb⟩; have n0_ := Aside0.mk (Kd.R_below (by (with_reducible repeat (first | apply Kd.R_alloc | apply Kd.R_drewN | apply Kd.R_drew)); exact HO_10.out) hb); have n1_ := Aside0.mk (Kd.R_below (by (with_reducible repeat (first | apply Kd.R_alloc | apply Kd.R_drewN | apply Kd.R_drew)); exact HO_11.out) hb); have n2_ := Aside0.mk (below_step (by repeat (first | (with_reducible first | exact HB.out | apply below_alloc | apply pw_below_drewN | apply below_drew1) | exact HB.out)) hb); clear HO_10; clear HO_11; clear HB; have HO_10 := n0_; have HO_11 := n1_; have HB := n2_; clear n0_ n1_ n2_; (try clear hb); (try clear hb2); (try clear hk); (try clear hi)))
                  repeat (go_quiet (first | (go_at_call 14; (with_reducible refine (arbourlaw08_awake.calls kj15  false _ A32.out).mono ?_); rintro e w57 ⟨rfl, hb⟩; have n0_ := Aside0.mk (Kd.R_below (by (with_reducible repeat (first | apply Kd.R_alloc | apply Kd.R_drewN | apply Kd.R_drew)); exact HO_10.out) hb); have n1_ := Aside0.mk (Kd.R_below (by (with_reducible repeat (first | apply Kd.R_alloc | apply Kd.R_drewN | apply Kd.R_drew)); exact HO_11.out) hb); have n2_ := Aside0.mk (below_step (by repeat (first | (with_reducible first | exact HB.out | apply below_alloc | apply pw_below_drewN | apply below_drew1) | exact HB.out)) hb); clear HO_10; clear HO_11; clear HB; have HO_10 := n0_; have HO_11 := n1_; have HB := n2_; clear n0_ n1_ n2_; (try clear hb); (try clear hb2); (try clear hk); (try clear hi))); try go_wp2_with (first | (go_at_call 14; (with_reducible refine (arbourlaw08_awake.calls kj15  false _ A32.out).mono ?_); rintro e w57 ⟨rfl, hb⟩; have n0_ := Aside0.mk (Kd.R_below (by (with_reducible repeat (first | apply Kd.R_alloc | apply Kd.R_drewN | apply Kd.R_drew)); exact HO_10.out) hb); have n1_ := Aside0.mk (Kd.R_below (by (with_reducible repeat (first | apply Kd.R_alloc | apply Kd.R_drewN | apply Kd.R_drew)); exact HO_11.out) hb); have n2_ := Aside0.mk (below_step (by repeat (first | (with_reducible first | exact HB.out | apply below_alloc | apply pw_below_drewN | apply below_drew1) | exact HB.out)) hb); clear HO_10; clear HO_11; clear HB; have HO_10 := n0_; have HO_11 := n1_; have HB := n2_; clear n0_ n1_ n2_; (try clear hb); (try clear hb2); (try clear hk); (try clear hi))))
                  go_ret
                  exact ⟨by first | rfl | (simp [errW_none, errW_some] <;> rfl) | (simp [*, errW_none, errW_some] <;> rfl), by repeat (first | (with_reducible first | exact HB.out | apply below_alloc | apply pw_below_drewN | apply below_drew1) | exact HB.out)⟩
    · rw [if_neg c8] at H
      exact absurd H (by simp)
  · rw [if_neg c6] at H
    exact absurd H (by simp)

/-- THE ONE PURE STATEMENT of arbourlaw08_ChunkShifts: yours. -/
def arbourlaw08_ChunkShifts.Pure : Prop := ∀ (a0 : ByteArray) (a1 : ByteArray) (a2 : Int), a0.size ≤ 140737488351232 → a1.size ≤ 140737488351232 → (Lit.int .u64 a2).wf = true → ∃ k, arbourlaw08_ChunkShifts.f k a0 a1 a2 = some true
theorem arbourlaw08_ChunkShifts.walk (P : arbourlaw08_ChunkShifts.Pure) (a0 : ByteArray) (a1 : ByteArray) (a2 : Int) (w : World) (w0 : a0.size ≤ 140737488351232) (w1 : a1.size ≤ 140737488351232) (w2 : (Lit.int .u64 a2).wf = true) :
    Calls Try.prog 3 #[.string a0, .string a1, .int .u64 a2] w fun e w' => e = .returned (.bool true) ∧ Below w.heap.size w w' := by
  obtain ⟨k, h⟩ := P a0 a1 a2 w0 w1 w2
  refine (arbourlaw08_ChunkShifts.calls k a0 a1 a2 true w h).mono ?_
  rintro e w' ⟨rfl, hd⟩
  exact ⟨rfl, hd⟩

end Go.Proofs.Ytobkpglenpoacaa.XChunkShifts
