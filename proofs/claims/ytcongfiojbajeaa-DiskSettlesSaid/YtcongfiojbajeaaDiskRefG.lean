/- The document's disk: Sync: every file is settled. -/
import Derived.Test.YtcongfiojbajeaaDiskRefF
namespace Go.Proofs.YtcongfiojbajeaaK
open Go Go.RowKit Go.Maps Go.Proofs.YtcongfiojbajeaaM Go.Proofs.YtcongfiojbajeaaW.PrintWords Go.Proofs.YtcongfiojbajeaaN
set_option linter.unusedVariables false
set_option linter.unusedSimpArgs false
theorem settled_made {w : World} {ok : Nat → Prop} {nme s : ByteArray} : kF.M w 0 ok (nme, ⟨s, true, []⟩) [.string nme, .string s, .bool true, .slice none 0 0] :=
  ⟨[.string nme], [.string s, .bool true, .slice none 0 0], rfl, rfl, [.string s], [.bool true, .slice none 0 0], rfl, rfl, [.bool true], [.slice none 0 0], rfl, rfl, .slice none 0 0, rfl, Kd.R_nil _ _ _ _ _⟩
theorem low5 {w W : World} {a b c d e : Addr} {va vb vc vd ve : Value} (hb : Below w.heap.size w W) (x : w.cell? a = some va ∧ w.cell? b = some vb ∧ w.cell? c = some vc ∧ w.cell? d = some vd ∧ w.cell? e = some ve) :
    W.cell? a = some va ∧ W.cell? b = some vb ∧ W.cell? c = some vc ∧ W.cell? d = some vd ∧ W.cell? e = some ve :=
  ⟨pw_cell_below hb x.1, pw_cell_below hb x.2.1, pw_cell_below hb x.2.2.1, pw_cell_below hb x.2.2.2.1, pw_cell_below hb x.2.2.2.2⟩
theorem mapV_take {ν μ : Type} (g : ν → μ) {l : List (ByteArray × ν)} {k : Nat} (hk : k < l.length) : mapV g (l.take (k + 1)) = mapV g (l.take k) ++ [(l[k].1, g l[k].2)] := by
  rw [List.take_succ_eq_append_getElem hk]
  unfold mapV
  rw [List.map_append]
  rfl
theorem kF_any {w : World} {ok : Nat → Prop} {v : Value} {l : List (ByteArray × PF)} (h : Kd.R kF 75 w 0 ok v l) : Kd.R kF 75 w 0 (fun _ => True) v l := Kd.R_mono h (fun _ _ => trivial)
set_option maxHeartbeats 8000000 in
set_option maxRecDepth 100000 in
theorem rsync (l : List (ByteArray × PF)) (vf : Value) (room next : Int) (w : World) (h : Kd.R kF 75 w 0 (fun _ => True) vf l) (hl : l.length ≤ 1000000) (hs : ∀ p ∈ l, p.2.vol ≤ 1000000 ∧ p.2.loose.length ≤ 1000000) :
    Calls Try.prog 44 #[.agg #[vf, .int .i64 room, .slice none 0 0, .int .i64 next, .bool false]] w fun e' w' => ∃ vf', e' = .returned (.tuple #[.agg #[vf', .int .i64 room, .slice none 0 0, .int .i64 next, .bool false], .int .i64 0]) ∧ Kd.R kF 75 w' 0 (fun _ => True) vf' (mapV PF.settled l) ∧ Below w.heap.size w w' := by
  obtain ⟨A, c, rfl⟩ := Kd.R_slice h
  obtain ⟨w1, hw1⟩ : ∃ w1, w.alloc (.cells #[.slice A l.length c, .int .i64 room, .slice none 0 0, .int .i64 next, .bool false] 29) = w1 := ⟨_, rfl⟩
  have hs1 : w1.heap.size = w.heap.size + 1 := by rw [← hw1]; simp
  have hb1 : Below w.heap.size w w1 := by rw [← hw1]; exact (Below.refl _ _).alloc (Nat.le_refl _) _
  have hx1 : w1.heap[w.heap.size]? = some (.cells #[.slice A l.length c, .int .i64 room, .slice none 0 0, .int .i64 next, .bool false] 29 (0, 0)) := by rw [← hw1]; exact alloc_at w _
  obtain ⟨w2, hw2⟩ : ∃ w2, w1.alloc (.cells #[.slice none 0 0, .int .i64 0, .slice none 0 0, .int .i64 0, .bool false] 29) = w2 := ⟨_, rfl⟩
  have HB2 := Lib.hid (show Below w.heap.size w w2 by rw [← hw2]; exact hb1.alloc hb1.size _)
  have HX2 := Lib.hid (show w2.heap[w.heap.size]? = some (.cells #[.slice A l.length c, .int .i64 room, .slice none 0 0, .int .i64 next, .bool false] 29 (0, 0)) by rw [← hw2]; exact (Below.heap_alloc w1 _ _ (blk_lt hx1)).trans hx1)
  have HY2 := Lib.hid (show w2.heap[w.heap.size + 1]? = some (.cells #[.slice none 0 0, .int .i64 0, .slice none 0 0, .int .i64 0, .bool false] 29 (0, 0)) by rw [← hw2, ← hs1]; exact alloc_at w1 _)
  have HH := Lib.hid (R_below2 h HB2.out)
  have HS := Lib.hid hs
  have hlen : l.length ≤ 1000000 := hl
  clear hx1 hb1 h hs
  have x0 : w2.cell? ⟨w.heap.size, 0, none⟩ = some (.slice A l.length c) := cell_in HX2.out 0
  have x4 : w2.cell? ⟨w.heap.size, 4, none⟩ = some (.bool false) := cell_in HX2.out 4
  have HW2 := Lib.hid (rfl : w2 = w2)
  go_enter Try.func44, Try.ntmps44
  go_wp2_with fail
  clear x0 x4 hw1 hw2
  obtain ⟨i0, hi0, hz0, hz1, hz2⟩ := info_parts infoF
  go_loopw [4, 5] (fun u4 u5 wr => ∃ (k : Nat) (v : Value), k ≤ l.length ∧ v = u4 ∧ u5 = .int .i64 k ∧ Hid (Kd.R kF 75 wr 0 (fun b => w2.heap.size ≤ b) v (mapV PF.settled (l.take k))) ∧ Hid (Below w2.heap.size w2 wr)) (fun _ u5 _ => l.length + 1 - (intOf u5).toNat)
  case atStart => exact ⟨0, _, by omega, rfl, rfl, Lib.hid (rows_nil w2 (fun b => w2.heap.size ≤ b) (Nat.le_refl _)), Lib.hid ((Below.refl _ w2).alloc (Nat.le_refl _) _)⟩
  case round =>
    obtain ⟨k, v, hk, rfl, rfl, HR, HB⟩ := hrel
    by_cases hlt : k < l.length
    · have d1 : decide ((k : Int) < (l.length : Int)) = true := decide_eq_true (by omega)
      have p1 : (0 ≤ (k : Int)) = True := eq_true (by omega)
      have q1 : ((k : Int) < (l.length : Int)) = True := eq_true (by omega)
      have hC2 := C_of_R HH.out
      obtain ⟨ad, A', c', rfl, ⟨y0, y1, y2, y3⟩, hle, hC⟩ := agg_read hC2 k hlt hlt
      have x0 : wr.cell? ⟨w.heap.size, 0, none⟩ = some (.slice (some ad) l.length c) := cell_in ((HB.out.block _ (blk_lt HX2.out)).trans HX2.out) 0
      have HBy := Lib.hid (fun W (hW : Below w2.heap.size w2 W) => rbytes l[k].1 l[k].2 A' c' W (Kd.C_below hC hW) (HS.out _ (List.getElem_mem hlt)).1 (HS.out _ (List.getElem_mem hlt)).2)
      have HN := Lib.hid (mapV_take PF.settled hlt)
      generalize l[k] = f at y0 y1 y2 y3 HBy HN
      have HC5 := Lib.hid (show w2.cell? ⟨w.heap.size, 0, none⟩ = some (.slice (some ad) l.length c) ∧ w2.cell? (ad.add (k * 4)) = some (.string f.1) ∧ w2.cell? ⟨(ad.add (k * 4)).block, (ad.add (k * 4)).off + 1, none⟩ = some (.string f.2.sure) ∧ w2.cell? ⟨(ad.add (k * 4)).block, (ad.add (k * 4)).off + 2, none⟩ = some (.bool f.2.there) ∧ w2.cell? ⟨(ad.add (k * 4)).block, (ad.add (k * 4)).off + 3, none⟩ = some (.slice A' f.2.loose.length c') from ⟨cell_in HX2.out 0, y0, y1, y2, y3⟩)
      clear hC hle hC2 y0 y1 y2 y3
      go_wp2_with fail
      have kd := low5 HB.out.drew HC5.out
      go_region_held3 (fun w' => w'.cell? ⟨w.heap.size, 0, none⟩ = some (.slice (some ad) l.length c) ∧ w'.cell? (ad.add (k * 4)) = some (.string f.1) ∧ w'.cell? ⟨(ad.add (k * 4)).block, (ad.add (k * 4)).off + 1, none⟩ = some (.string f.2.sure) ∧ w'.cell? ⟨(ad.add (k * 4)).block, (ad.add (k * 4)).off + 2, none⟩ = some (.bool f.2.there) ∧ w'.cell? ⟨(ad.add (k * 4)).block, (ad.add (k * 4)).off + 3, none⟩ = some (.slice A' f.2.loose.length c'))
        (first
          | with_reducible exact kd
          | with_reducible exact kB
          | with_reducible exact kS
          | with_reducible exact kA
          | with_reducible exact low5 (below_alloc hbS _) HC5.out)
        (first
          | (go_at_call 36; refine (HBy.out _ HB.out.drew).mono ?_; rintro e' wB ⟨rfl, hsB⟩; have hbB : Below w2.heap.size w2 wB := HB.out.drew.trans (hsB.mono HB.out.drew.size); have kB := low5 hbB HC5.out)
          | (go_at_call 58; refine (rsettled _ _ _ _ _ _ _).mono ?_; rintro e' wS ⟨rfl, hsS⟩; have hbS : Below w2.heap.size w2 wS := hbB.trans (hsS.mono hbB.size); have kS := low5 hbS HC5.out)
          | (refine step_rows kF (by rfl) _ _ _ 75 (by rfl) 0 i0 _ 64 Try.underlying26 hi0 hz0 hz1 hz2 rfl (by decide) v (mapV PF.settled (l.take k)) [(f.1, f.2.settled)] (some ⟨wS.heap.size, 0, none⟩) 1 1 (fun b => w2.heap.size ≤ b) (fun _ => False) (by rfl) (by rfl) (Kd.R_alloc (Kd.R_below (Kd.R_below (Kd.R_drew HR.out) hsB) hsS) _) (one_read (alloc_at' wS _) settled_made) (fun _ h => h.elim) (fun _ hk => Nat.le_trans (Nat.le_trans hbS.size (by simp)) hk) (Nat.zero_le _) (by unfold maxLen; simp [mapV]; omega) (by simp [mapV]; omega) ?_; intro v3 w7 hR7 hg7 hat7; have hbA : Below w2.heap.size w2 w7 := pw_below_grown (below_alloc hbS _) _ (by have := hbS.size; simp; omega) hg7 (fun b hb => HR.out.1 b hb); have kA := low5 hbA HC5.out))
      have HR7 := Lib.hid (show Kd.R kF 75 w7 0 (fun b => w2.heap.size ≤ b) v3 (mapV PF.settled (l.take (k + 1))) by rw [HN.out]; exact hR7)
      have HB7 := Lib.hid hbA
      clear hR7 hbA kA kd kB kS hg7 hat7 hbS hbB hsS hsB HN HBy HC5 x0
      go_wp2_with fail
      go_roundw
      case rel => exact ⟨k + 1, v3, by omega, rfl, by go_num, HR7, HB7⟩
      case measure => simp [intOf]; omega
    · obtain rfl : k = l.length := by omega
      have d1 : decide ((l.length : Int) < (l.length : Int)) = false := decide_eq_false (by omega)
      rw [List.take_length] at HR
      obtain ⟨A9, c9, hv9⟩ := Kd.R_slice HR.out
      obtain ⟨m9, hm9⟩ : ∃ m9, m9 = (mapV PF.settled l).length := ⟨_, rfl⟩
      rw [← hm9] at hv9
      subst hv9
      clear hm9
      have HXr := Lib.hid ((HB.out.block _ (blk_lt HX2.out)).trans HX2.out)
      have HYr := Lib.hid ((HB.out.block _ (blk_lt HY2.out)).trans HY2.out)
      have HRr := Lib.hid (kF_any HR.out)
      have x0 : wr.cell? ⟨w.heap.size, 0, none⟩ = some (.slice A l.length c) := cell_in HXr.out 0
      have x1 : wr.cell? ⟨w.heap.size, 1, none⟩ = some (.int .i64 room) := cell_in HXr.out 1
      have x2 : wr.cell? ⟨w.heap.size, 2, none⟩ = some (.slice none 0 0) := cell_in HXr.out 2
      have x3 : wr.cell? ⟨w.heap.size, 3, none⟩ = some (.int .i64 next) := cell_in HXr.out 3
      have x4 : wr.cell? ⟨w.heap.size, 4, none⟩ = some (.bool false) := cell_in HXr.out 4
      have y0 : wr.cell? ⟨w.heap.size + 1, 0, none⟩ = some (.slice none 0 0) := cell_in HYr.out 0
      have y1 : wr.cell? ⟨w.heap.size + 1, 1, none⟩ = some (.int .i64 0) := cell_in HYr.out 1
      have y2 : wr.cell? ⟨w.heap.size + 1, 2, none⟩ = some (.slice none 0 0) := cell_in HYr.out 2
      have y3 : wr.cell? ⟨w.heap.size + 1, 3, none⟩ = some (.int .i64 0) := cell_in HYr.out 3
      have y4 : wr.cell? ⟨w.heap.size + 1, 4, none⟩ = some (.bool false) := cell_in HYr.out 4
      have fz := free_in HXr.out
      have fy := free_in HYr.out
      go_wp2_with fail
      have f5 := (sets_other wr w.heap.size (w.heap.size + 1) [(0, .slice A9 m9 c9)] (by omega)).trans HYr.out
      refine bodyPost_ret (results_ct rfl _ _ (w.heap.size + 1) 29 #[.slice A9 m9 c9, .int .i64 room, .slice none 0 0, .int .i64 next, .bool false] (0, 0) _ rfl (blk_set (blk_set (blk_set (blk_set (blk_set f5 0 _) 1 _) 2 _) 3 _) 4 _) Try.underlying29 rfl (by kernel_rfl)) rfl ?_
      refine ⟨.slice A9 m9 c9, rfl, ?_, ?_⟩
      · exact R_sets (R_sets HRr.out HXr.out (by decide) [(0, _)]) f5 (by decide) [(0, _), (1, _), (2, _), (3, _), (4, _)]
      · exact below_sets (below_sets (HB2.out.trans (HB.out.mono HB2.out.size)) (Nat.le_refl _) [(0, _)]) (by omega) [(0, _), (1, _), (2, _), (3, _), (4, _)]
end Go.Proofs.YtcongfiojbajeaaK
