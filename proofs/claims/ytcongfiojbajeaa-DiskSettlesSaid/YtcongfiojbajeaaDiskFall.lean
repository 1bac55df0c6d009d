/- A file of the disk behind a loss of power: the walk. Conditions: the file lies in the world; it has fewer than 1000000000 bytes, all in all. -/
import Derived.Test.YtcongfiojbajeaaDiskSettle
import Derived.Lib.MinMax
import Derived.Deep.RegionWith
namespace Go.Proofs.YtcongfiojbajeaaK
open Go Go.RowKit Go.Proofs.YtcongfiojbajeaaM Go.Proofs.YtcongfiojbajeaaW.PrintWords
set_option linter.unusedVariables false
set_option linter.unusedSimpArgs false
/-- How many pieces are kept. -/
def PF.kept (f : PF) (keep : Int) : Nat := min (max keep 0).toNat f.loose.length
/-- A piece, torn. -/
def tear (p : ByteArray × Bool) (torn : Int) : ByteArray × Bool := if torn ≤ ((p.1.size / 8 : Nat) : Int) then (p.1.extract 0 (torn.toNat * 8), p.2) else p
def PF.base (f : PF) (n : Nat) : PF := ⟨(f.loose.take n).foldl onP f.sure, f.there || decide (0 < n), []⟩
def PF.fallen (f : PF) (n : Nat) (torn : Int) : PF :=
  if h : n < f.loose.length ∧ 0 < torn then ⟨onP (f.base n).sure (tear f.loose[n] torn), true, []⟩ else f.base n
theorem alloc_at (w : World) (o : Obj) : (w.alloc o).drew.heap[w.heap.size]? = some o := by
  show (w.heap.push o)[w.heap.size]? = some o
  simp
set_option maxHeartbeats 2000000 in
set_option maxRecDepth 100000 in
theorem fall_any (fb : Nat) (f : PF) (A : Option Addr) (c : Nat) (keep torn : Int) (w : World) (hl : Lies w fb f (.slice A f.loose.length c)) (hc : Kd.C kP w A f.loose.length f.loose) (hv : f.vol ≤ 1000000000) (hn : f.loose.length ≤ 1000000000) (hcap : f.loose.length ≤ c)
    (hk : -9223372036854775808 ≤ keep ∧ keep ≤ 9223372036854775807) (ht : -9223372036854775808 ≤ torn ∧ torn ≤ 9223372036854775807) :
    Calls Try.prog 30 #[.pointer (some ⟨fb, 0, none⟩), .int .i64 keep, .int .i64 torn] w fun e w' => Below w.heap.size w w' ∧
      ((f.fallen (f.kept keep) torn).there = true → ∃ nb, w.heap.size ≤ nb ∧ e = .returned (.pointer (some ⟨nb, 0, none⟩)) ∧ Lies w' nb (f.fallen (f.kept keep) torn) (.slice none 0 0)) ∧
      ((f.fallen (f.kept keep) torn).there = false → e = .returned (.pointer none)) := by
  have x0 : w.cell? ⟨fb, 0, none⟩ = some (.string f.sure) := cell_in hl 0
  have x1 : w.cell? ⟨fb, 1, none⟩ = some (.bool f.there) := cell_in hl 1
  have x2 : w.cell? ⟨fb, 2, none⟩ = some (.slice A f.loose.length c) := cell_in hl 2
  have HL := Lib.hid hl
  have HC := Lib.hid hc
  have HV := Lib.hid hv
  clear hl hc hv
  obtain ⟨n, hnk⟩ : ∃ n, n = f.kept keep := ⟨_, rfl⟩
  rw [← hnk]
  have hle : n ≤ f.loose.length := by rw [hnk]; exact Nat.min_le_right _ _
  have hmm : min (max keep 0) (f.loose.length : Int) = (n : Int) := by rw [hnk]; unfold PF.kept; omega
  have d0 : decide ((0 : Int) < (n : Int)) = decide (0 < n) := decide_eq_decide.2 (by omega)
  clear hnk
  cases hth : f.there <;> rw [hth] at x1
  · go_enter Try.func30, Try.ntmps30
    go_wp2_with fail
    go_region
    generalize hw1 : (w.alloc (.cells #[.string f.sure, .bool (decide (0 < n)), .slice none 0 0] 69)).drew = w1
    have HB1 := Lib.hid (show Below w.heap.size w w1 by rw [← hw1]; exact Below.drew ((Below.refl _ _).alloc (Nat.le_refl _) _))
    have HL1 := Lib.hid (show Lies w1 w.heap.size ⟨f.sure, decide (0 < n), []⟩ (.slice none 0 0) by rw [← hw1]; exact alloc_at _ _)
    have hl1 : Lies w1 fb f (.slice A f.loose.length c) := (HB1.out.block fb (blk_lt HL.out)).trans HL.out
    have y2 : w1.cell? ⟨fb, 2, none⟩ = some (.slice A f.loose.length c) := cell_in hl1 2
    have p1 : ((n : Int) ≤ (c : Int)) = True := eq_true (by omega)
    have p2 : (0 ≤ (n : Int)) = True := eq_true (by omega)
    clear hw1 hl1 x0 x1 x2
    go_wp2_with fail
    have HE := Lib.hid (rfl : w.heap.size = w.heap.size)
    go_loopw [41] (fun i wr => ∃ k : Nat, k ≤ n ∧ i = .int .i64 k ∧ Hid (Lies wr w.heap.size ⟨(f.loose.take k).foldl onP f.sure, decide (0 < n), []⟩ (.slice none 0 0)) ∧ Hid (Below w.heap.size w wr)) (fun i _ => n + 1 - (intOf i).toNat)
    case atStart => exact ⟨0, by omega, rfl, HL1, HB1⟩
    case round =>
      obtain ⟨k, hkn, rfl, HLr, HBr⟩ := hrel
      clear HL1 HB1 y2
      by_cases hlt : k < n
      · have hlt' : k < f.loose.length := by omega
        have d1 : decide ((k : Int) < (n : Int)) = true := decide_eq_true (by omega)
        have p3 : (0 ≤ (k : Int)) = True := eq_true (by omega)
        have q1 : ((k : Int) < (n : Int)) = True := eq_true (by omega)
        obtain ⟨ad, rfl, y0, y1⟩ := piece_read (Kd.C_below HC.out HBr.out) k hlt' hlt'
        have hsm := piece_small f k hlt'
        have HT := Lib.hid (show (f.loose.take (k + 1)).foldl onP f.sure = onP ((f.loose.take k).foldl onP f.sure) f.loose[k] by
          rw [List.take_succ_eq_append_getElem hlt', List.foldl_append]; rfl)
        generalize f.loose[k] = p at y0 y1 hsm HT
        have HS := Lib.hid (Nat.le_trans hsm HV.out)
        clear hsm
        go_wp2_with fail
        generalize hw2 : wr.alloc (.cells #[.string p.1, .bool p.2] 58) = w2
        have HB2 := Lib.hid (show Below wr.heap.size wr w2 by rw [← hw2]; exact (Below.refl _ _).alloc (Nat.le_refl _) _)
        have hp2 : w2.heap[wr.heap.size]? = some (.cells #[.string p.1, .bool p.2] 58 (0, 0)) := by rw [← hw2]; exact alloc_at wr _
        have z0 : w2.cell? ⟨wr.heap.size, 0, none⟩ = some (.string p.1) := cell_in hp2 0
        have z1 : w2.cell? ⟨wr.heap.size, 1, none⟩ = some (.bool p.2) := cell_in hp2 1
        have HL2 := Lib.hid (show Lies w2 w.heap.size ⟨(f.loose.take k).foldl onP f.sure, decide (0 < n), []⟩ (.slice none 0 0) from (HB2.out.block _ (blk_lt HLr.out)).trans HLr.out)
        have n0 : w2.cell? ⟨w.heap.size, 0, none⟩ = some (.string ((f.loose.take k).foldl onP f.sure)) := cell_in HL2.out 0
        clear hw2 hp2 y0 y1
        go_region_with (refine (on_any p _ _ HS.out).mono ?_; rintro e w3 ⟨rfl, hb⟩; have HB3 := Lib.hid hb; clear hb; have HL3 := Lib.hid (show Lies w3 w.heap.size ⟨(f.loose.take k).foldl onP f.sure, decide (0 < n), []⟩ (.slice none 0 0) from (HB3.out.block _ (blk_lt HL2.out)).trans HL2.out); have n3 := cell_in HL3.out 0; have m3 := free_in HL3.out)
        go_wp2_with fail
        all_goals
          refine ⟨⟨k + 1, by omega, by go_num, ?_, ?_⟩, by simp [intOf]; omega⟩
          · rw [HT.out]; exact blk_set HL3.out 0 _
          · have s1 := HBr.out.size
            have s2 := HB2.out.size
            exact Below.setCell ((HBr.out.trans (HB2.out.mono s1).drew).trans (HB3.out.mono (Nat.le_trans s1 s2))) (Nat.le_refl _) _
      · obtain rfl : k = n := by omega
        have d1 : decide ((k : Int) < (k : Int)) = false := decide_eq_false (by omega)
        by_cases hx : k < f.loose.length ∧ 0 < torn
        · have d2 : decide ((k : Int) < (f.loose.length : Int)) = true := decide_eq_true (by omega)
          have d3 : decide ((0 : Int) < torn) = true := decide_eq_true (by omega)
          have hlt' : k < f.loose.length := hx.1
          have p3 : (0 ≤ (k : Int)) = True := eq_true (by omega)
          have q1 : ((k : Int) < (f.loose.length : Int)) = True := eq_true (by omega)
          have hl1 : Lies wr fb f (.slice A f.loose.length c) := (HBr.out.block fb (blk_lt HL.out)).trans HL.out
          have y2 : wr.cell? ⟨fb, 2, none⟩ = some (.slice A f.loose.length c) := cell_in hl1 2
          obtain ⟨ad, rfl, y0, y1⟩ := piece_read (Kd.C_below HC.out HBr.out) k hlt' hlt'
          have hsm := piece_small f k hlt'
          have HFa := Lib.hid (show f.fallen k torn = ⟨onP ((f.loose.take k).foldl onP f.sure) (tear f.loose[k] torn), true, []⟩ from by unfold PF.fallen; rw [dif_pos hx]; rfl)
          generalize f.loose[k] = p at y0 y1 hsm HFa
          have HS := Lib.hid (Nat.le_trans hsm HV.out)
          obtain ⟨tn, rfl⟩ : ∃ tn : Nat, torn = tn := ⟨torn.toNat, by omega⟩
          have hsz : p.1.size ≤ 1000000000 := by have := HS.out; omega
          obtain ⟨m, hm⟩ : ∃ m : Nat, m = p.1.size / 8 := ⟨_, rfl⟩
          have hw : wrap64 ((p.1.size : Int) / 8) = (m : Int) := by rw [hm]; unfold wrap64; omega
          clear hsm hl1
          by_cases h8 : tn ≤ m
          · have d8 : decide ((tn : Int) ≤ (m : Int)) = true := decide_eq_true (by omega)
            have d9 : ((tn : Int) ≤ (m : Int)) = True := eq_true (by omega)
            obtain ⟨t8, ht8⟩ : ∃ t8 : Nat, t8 = tn * 8 := ⟨_, rfl⟩
            have hw2 : wrap64 ((tn : Int) * 8) = (t8 : Int) := by rw [ht8]; unfold wrap64; omega
            have d10 : (0 ≤ (t8 : Int)) = True := eq_true (by omega)
            have d11 : ((t8 : Int) ≤ (p.1.size : Int)) = True := eq_true (by omega)
            go_wp2_with fail
            have HTe := Lib.hid (show tear p (tn : Int) = (p.1.extract 0 (tn * 8), p.2) by unfold tear; rw [if_pos (by omega)]; rfl)
            have HS2 := Lib.hid (show ((f.loose.take k).foldl onP f.sure).size + (p.1.extract 0 (tn * 8)).size ≤ 1000000000 by have := HS.out; simp only [ByteArray.size_extract]; omega)
            generalize hw2 : wr.alloc (.cells #[.string (p.1.extract 0 (tn * 8)), .bool p.2] 58) = w2
            have HB2 := Lib.hid (show Below wr.heap.size wr w2 by rw [← hw2]; exact (Below.refl _ _).alloc (Nat.le_refl _) _)
            have hp2 : w2.heap[wr.heap.size]? = some (.cells #[.string (p.1.extract 0 (tn * 8)), .bool p.2] 58 (0, 0)) := by rw [← hw2]; exact alloc_at wr _
            have z0 : w2.cell? ⟨wr.heap.size, 0, none⟩ = some (.string (p.1.extract 0 (tn * 8))) := cell_in hp2 0
            have z1 : w2.cell? ⟨wr.heap.size, 1, none⟩ = some (.bool p.2) := cell_in hp2 1
            have HL2 := Lib.hid (show Lies w2 w.heap.size ⟨(f.loose.take k).foldl onP f.sure, decide (0 < k), []⟩ (.slice none 0 0) from (HB2.out.block _ (blk_lt HLr.out)).trans HLr.out)
            have n0 : w2.cell? ⟨w.heap.size, 0, none⟩ = some (.string ((f.loose.take k).foldl onP f.sure)) := cell_in HL2.out 0
            clear hw2 hp2 y0 y1
            go_region_with (refine (on_any (p.1.extract 0 (tn * 8), p.2) _ _ HS2.out).mono ?_; rintro e w3 ⟨rfl, hb⟩; have HB3 := Lib.hid hb; clear hb; have HL3 := Lib.hid (show Lies w3 w.heap.size ⟨(f.loose.take k).foldl onP f.sure, decide (0 < k), []⟩ (.slice none 0 0) from (HB3.out.block _ (blk_lt HL2.out)).trans HL2.out); have n3 := cell_in HL3.out 0; have m3 := cell_in HL3.out 1; have l3 := free_in HL3.out)
            all_goals
              go_wp2_with fail
              skip
              go_ret
              refine ⟨?_, fun hh => ⟨w.heap.size, Nat.le_refl _, rfl, ?_⟩, fun hh => ?_⟩
              · have s1 := HBr.out.size
                have s2 := HB2.out.size
                exact Below.setCell (Below.setCell ((HBr.out.trans (HB2.out.mono s1).drew).trans (HB3.out.mono (Nat.le_trans s1 s2))) (Nat.le_refl _) _) (Nat.le_refl _) _
              · rw [HFa.out, HTe.out]; exact blk_set (blk_set HL3.out 0 _) 1 _
              · rw [HFa.out] at hh; cases hh
          · have d8 : decide ((tn : Int) ≤ (m : Int)) = false := decide_eq_false (by omega)
            have d9 : ((tn : Int) ≤ (m : Int)) = False := eq_false (by omega)
            go_wp2_with fail
            have HTe := Lib.hid (show tear p (tn : Int) = p by unfold tear; rw [if_neg (by omega)])
            have HS2 := Lib.hid (show ((f.loose.take k).foldl onP f.sure).size + p.1.size ≤ 1000000000 by have := HS.out; omega)
            generalize hw2 : wr.alloc (.cells #[.string p.1, .bool p.2] 58) = w2
            have HB2 := Lib.hid (show Below wr.heap.size wr w2 by rw [← hw2]; exact (Below.refl _ _).alloc (Nat.le_refl _) _)
            have hp2 : w2.heap[wr.heap.size]? = some (.cells #[.string p.1, .bool p.2] 58 (0, 0)) := by rw [← hw2]; exact alloc_at wr _
            have z0 : w2.cell? ⟨wr.heap.size, 0, none⟩ = some (.string p.1) := cell_in hp2 0
            have z1 : w2.cell? ⟨wr.heap.size, 1, none⟩ = some (.bool p.2) := cell_in hp2 1
            have HL2 := Lib.hid (show Lies w2 w.heap.size ⟨(f.loose.take k).foldl onP f.sure, decide (0 < k), []⟩ (.slice none 0 0) from (HB2.out.block _ (blk_lt HLr.out)).trans HLr.out)
            have n0 : w2.cell? ⟨w.heap.size, 0, none⟩ = some (.string ((f.loose.take k).foldl onP f.sure)) := cell_in HL2.out 0
            clear hw2 hp2 y0 y1
            go_region_with (refine (on_any p _ _ HS2.out).mono ?_; rintro e w3 ⟨rfl, hb⟩; have HB3 := Lib.hid hb; clear hb; have HL3 := Lib.hid (show Lies w3 w.heap.size ⟨(f.loose.take k).foldl onP f.sure, decide (0 < k), []⟩ (.slice none 0 0) from (HB3.out.block _ (blk_lt HL2.out)).trans HL2.out); have n3 := cell_in HL3.out 0; have m3 := cell_in HL3.out 1; have l3 := free_in HL3.out)
            all_goals
              go_wp2_with fail
              skip
              go_ret
              refine ⟨?_, fun hh => ⟨w.heap.size, Nat.le_refl _, rfl, ?_⟩, fun hh => ?_⟩
              · have s1 := HBr.out.size
                have s2 := HB2.out.size
                exact Below.setCell (Below.setCell ((HBr.out.trans (HB2.out.mono s1).drew).trans (HB3.out.mono (Nat.le_trans s1 s2))) (Nat.le_refl _) _) (Nat.le_refl _) _
              · rw [HFa.out, HTe.out]; exact blk_set (blk_set HL3.out 0 _) 1 _
              · rw [HFa.out] at hh; cases hh
        · have d4 : (decide ((k : Int) < (f.loose.length : Int)) && decide ((0 : Int) < torn)) = false := by
            rw [Bool.and_eq_false_iff, decide_eq_false_iff_not, decide_eq_false_iff_not]; omega
          have HFa := Lib.hid (show f.fallen k torn = f.base k from by unfold PF.fallen; rw [dif_neg hx])
          have HG := Lib.hid (show f.base k = ⟨(f.loose.take k).foldl onP f.sure, decide (0 < k), []⟩ by unfold PF.base; rw [hth]; rfl)
          have hl1 : Lies wr fb f (.slice A f.loose.length c) := (HBr.out.block fb (blk_lt HL.out)).trans HL.out
          have y2 : wr.cell? ⟨fb, 2, none⟩ = some (.slice A f.loose.length c) := cell_in hl1 2
          have y3 : wr.cell? ⟨w.heap.size, 1, none⟩ = some (.bool (decide (0 < k))) := cell_in HLr.out 1
          clear hl1
          by_cases h5 : k < f.loose.length
          · have d2 : decide ((k : Int) < (f.loose.length : Int)) = true := decide_eq_true (by omega)
            have d3 : decide ((0 : Int) < torn) = false := decide_eq_false (by omega)
            cases hk0 : decide (0 < k) <;> (try rw [hk0] at y3)
            all_goals
              go_wp2_with fail
              go_ret
              refine ⟨HBr.out, fun hh => ?_, fun hh => ?_⟩
              · rw [HFa.out, HG.out] at hh ⊢
                first | (exact ⟨_, Nat.le_refl _, rfl, HLr.out⟩) | (have hh : decide (0 < k) = true := hh; rw [hk0] at hh; cases hh)
              · rw [HFa.out, HG.out] at hh
                first | rfl | (have hh : decide (0 < k) = false := hh; rw [hk0] at hh; cases hh) | (have hh : true = false := hh; cases hh)
          · have d2 : decide ((k : Int) < (f.loose.length : Int)) = false := decide_eq_false (by omega)
            cases hk0 : decide (0 < k) <;> (try rw [hk0] at y3)
            all_goals
              go_wp2_with fail
              go_ret
              refine ⟨HBr.out, fun hh => ?_, fun hh => ?_⟩
              · rw [HFa.out, HG.out] at hh ⊢
                first | (exact ⟨_, Nat.le_refl _, rfl, HLr.out⟩) | (have hh : decide (0 < k) = true := hh; rw [hk0] at hh; cases hh)
              · rw [HFa.out, HG.out] at hh
                first | rfl | (have hh : decide (0 < k) = false := hh; rw [hk0] at hh; cases hh) | (have hh : true = false := hh; cases hh)
  · go_enter Try.func30, Try.ntmps30
    go_wp2_with fail
    go_region
    generalize hw1 : (w.alloc (.cells #[.string f.sure, .bool true, .slice none 0 0] 69)).drew = w1
    have HB1 := Lib.hid (show Below w.heap.size w w1 by rw [← hw1]; exact Below.drew ((Below.refl _ _).alloc (Nat.le_refl _) _))
    have HL1 := Lib.hid (show Lies w1 w.heap.size ⟨f.sure, true, []⟩ (.slice none 0 0) by rw [← hw1]; exact alloc_at _ _)
    have hl1 : Lies w1 fb f (.slice A f.loose.length c) := (HB1.out.block fb (blk_lt HL.out)).trans HL.out
    have y2 : w1.cell? ⟨fb, 2, none⟩ = some (.slice A f.loose.length c) := cell_in hl1 2
    have p1 : ((n : Int) ≤ (c : Int)) = True := eq_true (by omega)
    have p2 : (0 ≤ (n : Int)) = True := eq_true (by omega)
    clear hw1 hl1 x0 x1 x2
    go_wp2_with fail
    have HE := Lib.hid (rfl : w.heap.size = w.heap.size)
    go_loopw [41] (fun i wr => ∃ k : Nat, k ≤ n ∧ i = .int .i64 k ∧ Hid (Lies wr w.heap.size ⟨(f.loose.take k).foldl onP f.sure, true, []⟩ (.slice none 0 0)) ∧ Hid (Below w.heap.size w wr)) (fun i _ => n + 1 - (intOf i).toNat)
    case atStart => exact ⟨0, by omega, rfl, HL1, HB1⟩
    case round =>
      obtain ⟨k, hkn, rfl, HLr, HBr⟩ := hrel
      clear HL1 HB1 y2
      by_cases hlt : k < n
      · have hlt' : k < f.loose.length := by omega
        have d1 : decide ((k : Int) < (n : Int)) = true := decide_eq_true (by omega)
        have p3 : (0 ≤ (k : Int)) = True := eq_true (by omega)
        have q1 : ((k : Int) < (n : Int)) = True := eq_true (by omega)
        obtain ⟨ad, rfl, y0, y1⟩ := piece_read (Kd.C_below HC.out HBr.out) k hlt' hlt'
        have hsm := piece_small f k hlt'
        have HT := Lib.hid (show (f.loose.take (k + 1)).foldl onP f.sure = onP ((f.loose.take k).foldl onP f.sure) f.loose[k] by
          rw [List.take_succ_eq_append_getElem hlt', List.foldl_append]; rfl)
        generalize f.loose[k] = p at y0 y1 hsm HT
        have HS := Lib.hid (Nat.le_trans hsm HV.out)
        clear hsm
        go_wp2_with fail
        generalize hw2 : wr.alloc (.cells #[.string p.1, .bool p.2] 58) = w2
        have HB2 := Lib.hid (show Below wr.heap.size wr w2 by rw [← hw2]; exact (Below.refl _ _).alloc (Nat.le_refl _) _)
        have hp2 : w2.heap[wr.heap.size]? = some (.cells #[.string p.1, .bool p.2] 58 (0, 0)) := by rw [← hw2]; exact alloc_at wr _
        have z0 : w2.cell? ⟨wr.heap.size, 0, none⟩ = some (.string p.1) := cell_in hp2 0
        have z1 : w2.cell? ⟨wr.heap.size, 1, none⟩ = some (.bool p.2) := cell_in hp2 1
        have HL2 := Lib.hid (show Lies w2 w.heap.size ⟨(f.loose.take k).foldl onP f.sure, true, []⟩ (.slice none 0 0) from (HB2.out.block _ (blk_lt HLr.out)).trans HLr.out)
        have n0 : w2.cell? ⟨w.heap.size, 0, none⟩ = some (.string ((f.loose.take k).foldl onP f.sure)) := cell_in HL2.out 0
        clear hw2 hp2 y0 y1
        go_region_with (refine (on_any p _ _ HS.out).mono ?_; rintro e w3 ⟨rfl, hb⟩; have HB3 := Lib.hid hb; clear hb; have HL3 := Lib.hid (show Lies w3 w.heap.size ⟨(f.loose.take k).foldl onP f.sure, true, []⟩ (.slice none 0 0) from (HB3.out.block _ (blk_lt HL2.out)).trans HL2.out); have n3 := cell_in HL3.out 0; have m3 := free_in HL3.out)
        go_wp2_with fail
        all_goals
          refine ⟨⟨k + 1, by omega, by go_num, ?_, ?_⟩, by simp [intOf]; omega⟩
          · rw [HT.out]; exact blk_set HL3.out 0 _
          · have s1 := HBr.out.size
            have s2 := HB2.out.size
            exact Below.setCell ((HBr.out.trans (HB2.out.mono s1).drew).trans (HB3.out.mono (Nat.le_trans s1 s2))) (Nat.le_refl _) _
      · obtain rfl : k = n := by omega
        have d1 : decide ((k : Int) < (k : Int)) = false := decide_eq_false (by omega)
        by_cases hx : k < f.loose.length ∧ 0 < torn
        · have d2 : decide ((k : Int) < (f.loose.length : Int)) = true := decide_eq_true (by omega)
          have d3 : decide ((0 : Int) < torn) = true := decide_eq_true (by omega)
          have hlt' : k < f.loose.length := hx.1
          have p3 : (0 ≤ (k : Int)) = True := eq_true (by omega)
          have q1 : ((k : Int) < (f.loose.length : Int)) = True := eq_true (by omega)
          have hl1 : Lies wr fb f (.slice A f.loose.length c) := (HBr.out.block fb (blk_lt HL.out)).trans HL.out
          have y2 : wr.cell? ⟨fb, 2, none⟩ = some (.slice A f.loose.length c) := cell_in hl1 2
          obtain ⟨ad, rfl, y0, y1⟩ := piece_read (Kd.C_below HC.out HBr.out) k hlt' hlt'
          have hsm := piece_small f k hlt'
          have HFa := Lib.hid (show f.fallen k torn = ⟨onP ((f.loose.take k).foldl onP f.sure) (tear f.loose[k] torn), true, []⟩ from by unfold PF.fallen; rw [dif_pos hx]; rfl)
          generalize f.loose[k] = p at y0 y1 hsm HFa
          have HS := Lib.hid (Nat.le_trans hsm HV.out)
          obtain ⟨tn, rfl⟩ : ∃ tn : Nat, torn = tn := ⟨torn.toNat, by omega⟩
          have hsz : p.1.size ≤ 1000000000 := by have := HS.out; omega
          obtain ⟨m, hm⟩ : ∃ m : Nat, m = p.1.size / 8 := ⟨_, rfl⟩
          have hw : wrap64 ((p.1.size : Int) / 8) = (m : Int) := by rw [hm]; unfold wrap64; omega
          clear hsm hl1
          by_cases h8 : tn ≤ m
          · have d8 : decide ((tn : Int) ≤ (m : Int)) = true := decide_eq_true (by omega)
            have d9 : ((tn : Int) ≤ (m : Int)) = True := eq_true (by omega)
            obtain ⟨t8, ht8⟩ : ∃ t8 : Nat, t8 = tn * 8 := ⟨_, rfl⟩
            have hw2 : wrap64 ((tn : Int) * 8) = (t8 : Int) := by rw [ht8]; unfold wrap64; omega
            have d10 : (0 ≤ (t8 : Int)) = True := eq_true (by omega)
            have d11 : ((t8 : Int) ≤ (p.1.size : Int)) = True := eq_true (by omega)
            go_wp2_with fail
            have HTe := Lib.hid (show tear p (tn : Int) = (p.1.extract 0 (tn * 8), p.2) by unfold tear; rw [if_pos (by omega)]; rfl)
            have HS2 := Lib.hid (show ((f.loose.take k).foldl onP f.sure).size + (p.1.extract 0 (tn * 8)).size ≤ 1000000000 by have := HS.out; simp only [ByteArray.size_extract]; omega)
            generalize hw2 : wr.alloc (.cells #[.string (p.1.extract 0 (tn * 8)), .bool p.2] 58) = w2
            have HB2 := Lib.hid (show Below wr.heap.size wr w2 by rw [← hw2]; exact (Below.refl _ _).alloc (Nat.le_refl _) _)
            have hp2 : w2.heap[wr.heap.size]? = some (.cells #[.string (p.1.extract 0 (tn * 8)), .bool p.2] 58 (0, 0)) := by rw [← hw2]; exact alloc_at wr _
            have z0 : w2.cell? ⟨wr.heap.size, 0, none⟩ = some (.string (p.1.extract 0 (tn * 8))) := cell_in hp2 0
            have z1 : w2.cell? ⟨wr.heap.size, 1, none⟩ = some (.bool p.2) := cell_in hp2 1
            have HL2 := Lib.hid (show Lies w2 w.heap.size ⟨(f.loose.take k).foldl onP f.sure, true, []⟩ (.slice none 0 0) from (HB2.out.block _ (blk_lt HLr.out)).trans HLr.out)
            have n0 : w2.cell? ⟨w.heap.size, 0, none⟩ = some (.string ((f.loose.take k).foldl onP f.sure)) := cell_in HL2.out 0
            clear hw2 hp2 y0 y1
            go_region_with (refine (on_any (p.1.extract 0 (tn * 8), p.2) _ _ HS2.out).mono ?_; rintro e w3 ⟨rfl, hb⟩; have HB3 := Lib.hid hb; clear hb; have HL3 := Lib.hid (show Lies w3 w.heap.size ⟨(f.loose.take k).foldl onP f.sure, true, []⟩ (.slice none 0 0) from (HB3.out.block _ (blk_lt HL2.out)).trans HL2.out); have n3 := cell_in HL3.out 0; have m3 := cell_in HL3.out 1; have l3 := free_in HL3.out)
            all_goals
              go_wp2_with fail
              skip
              go_ret
              refine ⟨?_, fun hh => ⟨w.heap.size, Nat.le_refl _, rfl, ?_⟩, fun hh => ?_⟩
              · have s1 := HBr.out.size
                have s2 := HB2.out.size
                exact Below.setCell (Below.setCell ((HBr.out.trans (HB2.out.mono s1).drew).trans (HB3.out.mono (Nat.le_trans s1 s2))) (Nat.le_refl _) _) (Nat.le_refl _) _
              · rw [HFa.out, HTe.out]; exact blk_set (blk_set HL3.out 0 _) 1 _
              · rw [HFa.out] at hh; cases hh
          · have d8 : decide ((tn : Int) ≤ (m : Int)) = false := decide_eq_false (by omega)
            have d9 : ((tn : Int) ≤ (m : Int)) = False := eq_false (by omega)
            go_wp2_with fail
            have HTe := Lib.hid (show tear p (tn : Int) = p by unfold tear; rw [if_neg (by omega)])
            have HS2 := Lib.hid (show ((f.loose.take k).foldl onP f.sure).size + p.1.size ≤ 1000000000 by have := HS.out; omega)
            generalize hw2 : wr.alloc (.cells #[.string p.1, .bool p.2] 58) = w2
            have HB2 := Lib.hid (show Below wr.heap.size wr w2 by rw [← hw2]; exact (Below.refl _ _).alloc (Nat.le_refl _) _)
            have hp2 : w2.heap[wr.heap.size]? = some (.cells #[.string p.1, .bool p.2] 58 (0, 0)) := by rw [← hw2]; exact alloc_at wr _
            have z0 : w2.cell? ⟨wr.heap.size, 0, none⟩ = some (.string p.1) := cell_in hp2 0
            have z1 : w2.cell? ⟨wr.heap.size, 1, none⟩ = some (.bool p.2) := cell_in hp2 1
            have HL2 := Lib.hid (show Lies w2 w.heap.size ⟨(f.loose.take k).foldl onP f.sure, true, []⟩ (.slice none 0 0) from (HB2.out.block _ (blk_lt HLr.out)).trans HLr.out)
            have n0 : w2.cell? ⟨w.heap.size, 0, none⟩ = some (.string ((f.loose.take k).foldl onP f.sure)) := cell_in HL2.out 0
            clear hw2 hp2 y0 y1
            go_region_with (refine (on_any p _ _ HS2.out).mono ?_; rintro e w3 ⟨rfl, hb⟩; have HB3 := Lib.hid hb; clear hb; have HL3 := Lib.hid (show Lies w3 w.heap.size ⟨(f.loose.take k).foldl onP f.sure, true, []⟩ (.slice none 0 0) from (HB3.out.block _ (blk_lt HL2.out)).trans HL2.out); have n3 := cell_in HL3.out 0; have m3 := cell_in HL3.out 1; have l3 := free_in HL3.out)
            all_goals
              go_wp2_with fail
              skip
              go_ret
              refine ⟨?_, fun hh => ⟨w.heap.size, Nat.le_refl _, rfl, ?_⟩, fun hh => ?_⟩
              · have s1 := HBr.out.size
                have s2 := HB2.out.size
                exact Below.setCell (Below.setCell ((HBr.out.trans (HB2.out.mono s1).drew).trans (HB3.out.mono (Nat.le_trans s1 s2))) (Nat.le_refl _) _) (Nat.le_refl _) _
              · rw [HFa.out, HTe.out]; exact blk_set (blk_set HL3.out 0 _) 1 _
              · rw [HFa.out] at hh; cases hh
        · have d4 : (decide ((k : Int) < (f.loose.length : Int)) && decide ((0 : Int) < torn)) = false := by
            rw [Bool.and_eq_false_iff, decide_eq_false_iff_not, decide_eq_false_iff_not]; omega
          have HFa := Lib.hid (show f.fallen k torn = f.base k from by unfold PF.fallen; rw [dif_neg hx])
          have HG := Lib.hid (show f.base k = ⟨(f.loose.take k).foldl onP f.sure, true, []⟩ by unfold PF.base; rw [hth]; rfl)
          have hl1 : Lies wr fb f (.slice A f.loose.length c) := (HBr.out.block fb (blk_lt HL.out)).trans HL.out
          have y2 : wr.cell? ⟨fb, 2, none⟩ = some (.slice A f.loose.length c) := cell_in hl1 2
          have y3 : wr.cell? ⟨w.heap.size, 1, none⟩ = some (.bool (true)) := cell_in HLr.out 1
          clear hl1
          by_cases h5 : k < f.loose.length
          · have d2 : decide ((k : Int) < (f.loose.length : Int)) = true := decide_eq_true (by omega)
            have d3 : decide ((0 : Int) < torn) = false := decide_eq_false (by omega)
            cases hk0 : decide (0 < k) <;> (try rw [hk0] at y3)
            all_goals
              go_wp2_with fail
              go_ret
              refine ⟨HBr.out, fun hh => ?_, fun hh => ?_⟩
              · rw [HFa.out, HG.out] at hh ⊢
                first | (exact ⟨_, Nat.le_refl _, rfl, HLr.out⟩) | (have hh : decide (0 < k) = true := hh; rw [hk0] at hh; cases hh)
              · rw [HFa.out, HG.out] at hh
                first | rfl | (have hh : decide (0 < k) = false := hh; rw [hk0] at hh; cases hh) | (have hh : true = false := hh; cases hh)
          · have d2 : decide ((k : Int) < (f.loose.length : Int)) = false := decide_eq_false (by omega)
            cases hk0 : decide (0 < k) <;> (try rw [hk0] at y3)
            all_goals
              go_wp2_with fail
              go_ret
              refine ⟨HBr.out, fun hh => ?_, fun hh => ?_⟩
              · rw [HFa.out, HG.out] at hh ⊢
                first | (exact ⟨_, Nat.le_refl _, rfl, HLr.out⟩) | (have hh : decide (0 < k) = true := hh; rw [hk0] at hh; cases hh)
              · rw [HFa.out, HG.out] at hh
                first | rfl | (have hh : decide (0 < k) = false := hh; rw [hk0] at hh; cases hh) | (have hh : true = false := hh; cases hh)
end Go.Proofs.YtcongfiojbajeaaK
