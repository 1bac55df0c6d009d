/- The document's disk: Cut. Conditions: the state is small; no falls are laid; the power is on. -/
import Derived.Test.YtcongfiojbajeaaDiskRefE
namespace Go.Proofs.YtcongfiojbajeaaK
open Go Go.RowKit Go.Maps Go.Proofs.YtcongfiojbajeaaM Go.Proofs.YtcongfiojbajeaaW.PrintWords Go.Proofs.YtcongfiojbajeaaN
set_option linter.unusedVariables false
set_option linter.unusedSimpArgs false
theorem calls_hide {f : Nat} {args : Array Value} {w : World} {Q : Ending → World → Prop} (h : ∀ Q', Hid (Q' = Q) → Calls Try.prog f args w Q') : Calls Try.prog f args w Q := h Q (Lib.hid rfl)
set_option maxHeartbeats 8000000 in
set_option maxRecDepth 100000 in
theorem rcut (l : List (ByteArray × PF)) (vf : Value) (room next : Int) (nme : ByteArray) (k : Int) (gone : Bool) (w : World) (h : Kd.R kF 75 w 0 (fun _ => True) vf l) (hl : l.length ≤ 1000000) (hr : Rises l) (hs : ∀ p ∈ l, p.2.vol ≤ 1000000 ∧ p.2.loose.length ≤ 1000000) (hn : 0 ≤ next ∧ next ≤ 1000000)
    (hnme : nme.size ≤ 9223372036854775807) :
    Calls Try.prog 43 #[.agg #[vf, .int .i64 room, .slice none 0 0, .int .i64 next, .bool false], .string nme, .int .i64 k, .bool gone] w fun e' w' =>
      (∀ e : Int, ((e = 60 ∧ nm nme = false) ∨ (e = 2 ∧ nm nme = true ∧ get l nme = none) ∨ (e = 1 ∧ nm nme = true ∧ ∃ f, get l nme = some f ∧ gone = false ∧ (k < 0 ∨ (f.now.size : Int) < k))) → e' = .returned (.tuple #[.agg #[vf, .int .i64 room, .slice none 0 0, .int .i64 next, .bool false], .int .i64 e]) ∧ Below w.heap.size w w') ∧
      (∀ f, nm nme = true → get l nme = some f → gone = true → ∃ vf', e' = .returned (.tuple #[.agg #[vf', .int .i64 room, .slice none 0 0, .int .i64 (next + 1), .bool false], .int .i64 0]) ∧ Kd.R kF 75 w' 0 (fun _ => True) vf' (delL l nme) ∧ Below w.heap.size w w') ∧
      (∀ f, nm nme = true → get l nme = some f → gone = false → 0 ≤ k → k ≤ (f.now.size : Int) → ∃ vf', e' = .returned (.tuple #[.agg #[vf', .int .i64 room, .slice none 0 0, .int .i64 (next + 1), .bool false], .int .i64 0]) ∧ Kd.R kF 75 w' 0 (fun _ => True) vf' (putS l nme ⟨f.now.extract 0 k.toNat, true, []⟩) ∧ Below w.heap.size w w') := by
  refine calls_hide (fun Q' HQ => ?_)
  obtain ⟨w1, hw1⟩ : ∃ w1, w.alloc (rd vf room next false) = w1 := ⟨_, rfl⟩
  have HB1 := Lib.hid (show Below w.heap.size w w1 by rw [← hw1]; exact (Below.refl _ _).alloc (Nat.le_refl _) _)
  have hx1 : w1.heap[w.heap.size]? = some (rd vf room next false) := by rw [← hw1]; exact alloc_at w _
  have hs1 : w1.heap.size = w.heap.size + 1 := by rw [← hw1]; simp
  obtain ⟨w2, hw2⟩ : ∃ w2, w1.alloc rz = w2 := ⟨_, rfl⟩
  have HB2 := Lib.hid (show Below w.heap.size w w2 by rw [← hw2]; exact HB1.out.alloc HB1.out.size _)
  have HX2 := Lib.hid (show w2.heap[w.heap.size]? = some (rd vf room next false) by rw [← hw2]; exact (Below.heap_alloc w1 _ _ (blk_lt hx1)).trans hx1)
  have HY2 := Lib.hid (show w2.heap[w.heap.size + 1]? = some rz by rw [← hw2, ← hs1]; exact alloc_at w1 _)
  obtain ⟨x0, x1, x2, x3, x4⟩ := rd_cells HX2.out
  have HN := Lib.hid (fun W => ref_any nme hnme W)
  have HH := Lib.hid (R_below2 h HB2.out)
  obtain ⟨A, c, rfl, hlc, hRR⟩ := rows_read HH.out
  have HCw := Lib.hid (C_of_R h)
  have Hh := Lib.hid h
  have HFd := Lib.hid (rfind l A c (.int .i64 room) (.slice none 0 0) (.int .i64 next) (.bool false) nme w2 (C_of_R HH.out) hl)
  have HRi := Lib.hid hr
  have HS := Lib.hid hs
  have hn0 := hn.1
  have hn1 := hn.2
  obtain ⟨bi, hbi⟩ : ∃ bi, bi = isI l nme := ⟨_, rfl⟩
  obtain ⟨n, hnx⟩ : ∃ n, n = idx l nme := ⟨_, rfl⟩
  rw [← hbi, ← hnx] at HFd
  have HI := Lib.hid (And.intro hbi hnx)
  clear hx1 h hr hRR hs hn hbi hnx
  go_enter Try.func43, Try.ntmps43
  go_wp2_with fail
  refine HFd.out.mono ?_
  rintro e' w3 ⟨rfl, hb3⟩
  have HX3 := Lib.hid ((hb3.block _ (blk_lt HX2.out)).trans HX2.out)
  have HY3 := Lib.hid ((hb3.block _ (blk_lt HY2.out)).trans HY2.out)
  have HB3 := Lib.hid (HB2.out.trans (hb3.mono HB2.out.size))
  clear x0 x1 x2 x3 x4 HFd hb3
  obtain ⟨x0, x1, x2, x3, x4⟩ := rd_cells HX3.out
  obtain ⟨z0, z1, z2, z3, z4⟩ := rd_cells HY3.out
  have fz2 := free_in HY3.out
  have hs3 : w.heap.size + 1 < w3.heap.size := blk_lt HY3.out
  have HBr := Lib.hid (fun l => below_sets (l := l) HB3.out (show w.heap.size ≤ w.heap.size + 1 by omega))
  go_wp2_with fail
  refine (HN.out _).mono ?_
  rintro e' w4 ⟨rfl, hw4⟩
  subst hw4
  cases hn1' : nm nme with
  | false =>
    go_wp2_with fail
    refine bodyPost_ret (results_ct rfl _ _ (w.heap.size + 1) 29 #[.slice A l.length c, .int .i64 room, .slice none 0 0, .int .i64 next, .bool false] (0, 0) _ rfl (blk_set (blk_set (blk_set (blk_set (blk_set HY3.out 0 _) 1 _) 2 _) 3 _) 4 _) Try.underlying29 rfl (by kernel_rfl)) rfl ?_
    rw [HQ.out]
    refine ⟨fun e hk => ?_, fun f h => (by rw [hn1'] at h; cases h), fun f h => (by rw [hn1'] at h; cases h)⟩
    obtain rfl : e = 60 := by rcases hk with h | h | h <;> first | exact h.1 | (have := h.2.1; rw [hn1'] at this; cases this)
    exact ⟨rfl, HBr.out [(0, _), (1, _), (2, _), (3, _), (4, _)]⟩
  | true =>
    cases bi with
    | false =>
      have hg := (isI_get HRi.out nme).2 HI.out.1.symm
      have Hg := Lib.hid hg
      clear hg
      go_wp2_with fail
      refine bodyPost_ret (results_ct rfl _ _ (w.heap.size + 1) 29 #[.slice A l.length c, .int .i64 room, .slice none 0 0, .int .i64 next, .bool false] (0, 0) _ rfl (blk_set (blk_set (blk_set (blk_set (blk_set HY3.out 0 _) 1 _) 2 _) 3 _) 4 _) Try.underlying29 rfl (by kernel_rfl)) rfl ?_
      rw [HQ.out]
      refine ⟨fun e hk => ?_, fun f _ h => (by rw [Hg.out] at h; cases h), fun f _ h => (by rw [Hg.out] at h; cases h)⟩
      obtain rfl : e = 2 := by
        rcases hk with h | h | h
        · have := h.2; rw [hn1'] at this; cases this
        · exact h.1
        · obtain ⟨f, h, _⟩ := h.2.2; rw [Hg.out] at h; cases h
      exact ⟨rfl, HBr.out [(0, _), (1, _), (2, _), (3, _), (4, _)]⟩
    | true =>
      obtain ⟨hlt, f, hat, hgt⟩ := (isI_get HRi.out nme).1 HI.out.1.symm
      have hlt' : n < l.length := by rw [HI.out.2]; exact hlt
      have HA := Lib.hid (show l[n] = (nme, f) by rw [← hat]; congr 1; exact HI.out.2)
      have Hg := Lib.hid hgt
      clear hlt hat hgt
      obtain ⟨ad, A2, c2, rfl, ⟨v0, v1, v2, v3⟩, hle, hC⟩ := agg_read HCw.out n hlt' hlt'
      rw [HA.out] at v0 v1 v2 v3 hle hC
      simp only at v0 v1 v2 v3 hle hC
      have y0 := (held_below HB3.out v0 (Below.refl _ _)).1
      have y1 := (held_below HB3.out v1 (Below.refl _ _)).1
      have y2 := (held_below HB3.out v2 (Below.refl _ _)).1
      have y3 := (held_below HB3.out v3 (Below.refl _ _)).1
      have p0 : (0 ≤ (n : Int)) = True := eq_true (by omega)
      have p1 : ((n : Int) < (l.length : Int)) = True := eq_true (by omega)
      have HRd := Lib.hid hC
      obtain ⟨w4, hw4⟩ : ∃ w4, w3.alloc (.cells #[.string nme, .string f.sure, .bool f.there, .slice A2 f.loose.length c2] 75) = w4 := ⟨_, rfl⟩
      have HB4 := Lib.hid (show Below w.heap.size w w4 by rw [← hw4]; exact HB3.out.alloc HB3.out.size _)
      have HF4 := Lib.hid (show w4.heap[w3.heap.size]? = some (.cells #[.string nme, .string f.sure, .bool f.there, .slice A2 f.loose.length c2] 75 (0, 0)) by rw [← hw4]; exact alloc_at w3 _)
      have HX4 := Lib.hid (show w4.heap[w.heap.size]? = some (rd (.slice (some ad) l.length c) room next false) by rw [← hw4]; exact (Below.heap_alloc w3 _ _ (blk_lt HX3.out)).trans HX3.out)
      have HY4 := Lib.hid (show w4.heap[w.heap.size + 1]? = some rz by rw [← hw4]; exact (Below.heap_alloc w3 _ _ (blk_lt HY3.out)).trans HY3.out)
      have u0 : w4.cell? ⟨w3.heap.size, 0, none⟩ = some (.string nme) := cell_in HF4.out 0
      have u1 : w4.cell? ⟨w3.heap.size, 1, none⟩ = some (.string f.sure) := cell_in HF4.out 1
      have u2 : w4.cell? ⟨w3.heap.size, 2, none⟩ = some (.bool f.there) := cell_in HF4.out 2
      have u3 : w4.cell? ⟨w3.heap.size, 3, none⟩ = some (.slice A2 f.loose.length c2) := cell_in HF4.out 3
      have hfm := HS.out _ (get_mem Hg.out)
      have HBy := Lib.hid (rbytes nme f A2 c2 w4 (Kd.C_below HRd.out HB4.out) hfm.1 hfm.2)
      have hsz : f.now.size ≤ 1000000 := Nat.le_trans (f.now_size) hfm.1
      clear v0 v1 v2 v3 hle hC z0 z1 z2 z3 z4 fz2 hfm
      go_wp2_with fail
      refine HBy.out.mono ?_
      rintro e' w5 ⟨rfl, hb5⟩
      have HX5 := Lib.hid ((hb5.block _ (blk_lt HX4.out)).trans HX4.out)
      have HY5 := Lib.hid ((hb5.block _ (blk_lt HY4.out)).trans HY4.out)
      have HF5 := Lib.hid ((hb5.block _ (blk_lt HF4.out)).trans HF4.out)
      have HB5 := Lib.hid (HB4.out.trans (hb5.mono HB4.out.size))
      clear x0 x1 x2 x3 x4 y0 y1 y2 y3 u0 u1 u2 u3 hb5
      obtain ⟨x0, x1, x2, x3, x4⟩ := rd_cells HX5.out
      obtain ⟨z0, z1, z2, z3, z4⟩ := rd_cells HY5.out
      have fz2 := free_in HY5.out
      have fzs := free_in HX5.out
      have u0 : w5.cell? ⟨w3.heap.size, 0, none⟩ = some (.string nme) := cell_in HF5.out 0
      have u1 : w5.cell? ⟨w3.heap.size, 1, none⟩ = some (.string f.sure) := cell_in HF5.out 1
      have u2 : w5.cell? ⟨w3.heap.size, 2, none⟩ = some (.bool f.there) := cell_in HF5.out 2
      have u3 : w5.cell? ⟨w3.heap.size, 3, none⟩ = some (.slice A2 f.loose.length c2) := cell_in HF5.out 3
      have HSt := Lib.hid (rstrike (some ad) l.length c room next false w5 ⟨hn0, hn1⟩)
      cases gone with
      | true =>
        go_wp2_with fail
        refine HSt.out.mono ?_
        rintro e' w6 ⟨rfl, hb6⟩
        have HX6 := Lib.hid ((hb6.block _ (blk_lt HX5.out)).trans HX5.out)
        have HY6 := Lib.hid ((hb6.block _ (blk_lt HY5.out)).trans HY5.out)
        have HF6 := Lib.hid ((hb6.block _ (blk_lt HF5.out)).trans HF5.out)
        have HB6 := Lib.hid (HB5.out.trans (hb6.mono HB5.out.size))
        clear x0 x1 x2 x3 x4 z0 z1 z2 z3 z4 fz2 fzs u0 u1 u2 u3 hb6
        obtain ⟨x0, x1, x2, x3, x4⟩ := rd_cells HX6.out
        have fzx := free_in HX6.out
        go_upto_region 16 with fail
        obtain ⟨w7, hw7⟩ : ∃ w7, setsOf w6 w.heap.size [(0, .slice (some ad) l.length c), (1, .int .i64 room), (2, .slice none 0 0), (3, .int .i64 (next + 1)), (4, .bool false)] = w7 := ⟨_, rfl⟩
        have HB7 := Lib.hid (show Below w.heap.size w w7 by rw [← hw7]; exact below_sets HB6.out (Nat.le_refl _) _)
        have HX7 := Lib.hid (show w7.heap[w.heap.size]? = some (rd (.slice (some ad) l.length c) room (next + 1) false) by rw [← hw7]; exact blk_set (blk_set (blk_set (blk_set (blk_set HX6.out 0 _) 1 _) 2 _) 3 _) 4 _)
        have HY7 := Lib.hid (show w7.heap[w.heap.size + 1]? = some rz by rw [← hw7, sets_other _ _ _ _ (by omega)]; exact HY6.out)
        have HF7 := Lib.hid (show w7.heap[w3.heap.size]? = some (.cells #[.string nme, .string f.sure, .bool f.there, .slice A2 f.loose.length c2] 75 (0, 0)) by rw [← hw7, sets_other _ _ _ _ (by omega)]; exact HF6.out)
        have hwe : ((((w6.setCell ⟨w.heap.size, 0, none⟩ (.slice (some ad) l.length c)).setCell ⟨w.heap.size, 1, none⟩ (.int .i64 room)).setCell ⟨w.heap.size, 2, none⟩ (.slice none 0 0)).setCell ⟨w.heap.size, 3, none⟩ (.int .i64 (next + 1))).setCell ⟨w.heap.size, 4, none⟩ (.bool false) = w7 := hw7
        rw [hwe]
        clear hw7 hwe x0 x1 x2 x3 x4 fzx
        obtain ⟨x0, x1, x2, x3, x4⟩ := rd_cells HX7.out
        have HWo := Lib.hid (rwithout l (.slice (some ad) l.length c) room (next + 1) false nme w7 (R_below2 Hh.out HB7.out) hl HRi.out)
        go_wp2_with fail
        refine HWo.out.mono ?_
        rintro e' w8 ⟨vW, rfl, hRw, hb8⟩
        obtain ⟨A3, c3, rfl⟩ := Kd.R_slice hRw
        have HY8 := Lib.hid ((hb8.block _ (blk_lt HY7.out)).trans HY7.out)
        have HR8 := Lib.hid hRw
        have HB8 := Lib.hid (HB7.out.trans (hb8.mono HB7.out.size))
        clear hRw hb8 x0 x1 x2 x3 x4
        obtain ⟨z0, z1, z2, z3, z4⟩ := rd_cells HY8.out
        have fz2 := free_in HY8.out
        go_wp2_with fail
        refine bodyPost_ret (results_ct rfl _ _ (w.heap.size + 1) 29 #[.slice A3 (delL l nme).length c3, .int .i64 room, .slice none 0 0, .int .i64 (next + 1), .bool false] (0, 0) _ rfl (blk_set (blk_set (blk_set (blk_set (blk_set HY8.out 0 _) 1 _) 2 _) 3 _) 4 _) Try.underlying29 rfl (by kernel_rfl)) rfl ?_
        rw [HQ.out]
        refine ⟨fun e hk => ?_, fun f' _ hg' _ => ?_, fun f' _ _ h => (by cases h)⟩
        · exfalso
          rcases hk with h | h | h
          · have := h.2; rw [hn1'] at this; cases this
          · have := h.2.2; rw [Hg.out] at this; cases this
          · obtain ⟨f', _, h, _⟩ := h.2.2; cases h
        · exact ⟨_, rfl, R_sets HR8.out HY8.out (by decide) [(0, _), (1, _), (2, _), (3, _), (4, _)], below_sets HB8.out (by omega) [(0, _), (1, _), (2, _), (3, _), (4, _)]⟩
      | false =>
        by_cases hk0 : k < 0
        · go_wp2_with fail
          refine bodyPost_ret (results_ct rfl _ _ (w.heap.size + 1) 29 #[.slice (some ad) l.length c, .int .i64 room, .slice none 0 0, .int .i64 next, .bool false] (0, 0) _ rfl (blk_set (blk_set (blk_set (blk_set (blk_set HY5.out 0 _) 1 _) 2 _) 3 _) 4 _) Try.underlying29 rfl (by kernel_rfl)) rfl ?_
          rw [HQ.out]
          refine ⟨fun e hk => ?_, fun f _ _ h => (by cases h), fun f' _ hg' _ h0 h1 => (by rw [Hg.out] at hg'; cases hg'; omega)⟩
          obtain rfl : e = 1 := by
            rcases hk with h | h | h
            · have := h.2; rw [hn1'] at this; cases this
            · have := h.2.2; rw [Hg.out] at this; cases this
            · exact h.1
          exact ⟨rfl, below_sets HB5.out (by omega) [(0, _), (1, _), (2, _), (3, _), (4, _)]⟩
        · by_cases hk1 : (f.now.size : Int) < k
          · go_wp2_with fail
            refine bodyPost_ret (results_ct rfl _ _ (w.heap.size + 1) 29 #[.slice (some ad) l.length c, .int .i64 room, .slice none 0 0, .int .i64 next, .bool false] (0, 0) _ rfl (blk_set (blk_set (blk_set (blk_set (blk_set HY5.out 0 _) 1 _) 2 _) 3 _) 4 _) Try.underlying29 rfl (by kernel_rfl)) rfl ?_
            rw [HQ.out]
            refine ⟨fun e hk => ?_, fun f _ _ h => (by cases h), fun f' _ hg' _ h0 h1 => (by rw [Hg.out] at hg'; cases hg'; omega)⟩
            obtain rfl : e = 1 := by
              rcases hk with h | h | h
              · have := h.2; rw [hn1'] at this; cases this
              · have := h.2.2; rw [Hg.out] at this; cases this
              · exact h.1
            exact ⟨rfl, below_sets HB5.out (by omega) [(0, _), (1, _), (2, _), (3, _), (4, _)]⟩
          · go_wp2_with fail
            refine HSt.out.mono ?_
            rintro e' w6 ⟨rfl, hb6⟩
            have HX6 := Lib.hid ((hb6.block _ (blk_lt HX5.out)).trans HX5.out)
            have HY6 := Lib.hid ((hb6.block _ (blk_lt HY5.out)).trans HY5.out)
            have HF6 := Lib.hid ((hb6.block _ (blk_lt HF5.out)).trans HF5.out)
            have HB6 := Lib.hid (HB5.out.trans (hb6.mono HB5.out.size))
            clear x0 x1 x2 x3 x4 z0 z1 z2 z3 z4 fz2 fzs u0 u1 u2 u3 hb6
            obtain ⟨x0, x1, x2, x3, x4⟩ := rd_cells HX6.out
            have fzx := free_in HX6.out
            go_upto_region 17 with fail
            obtain ⟨w7, hw7⟩ : ∃ w7, setsOf w6 w.heap.size [(0, .slice (some ad) l.length c), (1, .int .i64 room), (2, .slice none 0 0), (3, .int .i64 (next + 1)), (4, .bool false)] = w7 := ⟨_, rfl⟩
            have HB7 := Lib.hid (show Below w.heap.size w w7 by rw [← hw7]; exact below_sets HB6.out (Nat.le_refl _) _)
            have HX7 := Lib.hid (show w7.heap[w.heap.size]? = some (rd (.slice (some ad) l.length c) room (next + 1) false) by rw [← hw7]; exact blk_set (blk_set (blk_set (blk_set (blk_set HX6.out 0 _) 1 _) 2 _) 3 _) 4 _)
            have HY7 := Lib.hid (show w7.heap[w.heap.size + 1]? = some rz by rw [← hw7, sets_other _ _ _ _ (by omega)]; exact HY6.out)
            have HF7 := Lib.hid (show w7.heap[w3.heap.size]? = some (.cells #[.string nme, .string f.sure, .bool f.there, .slice A2 f.loose.length c2] 75 (0, 0)) by rw [← hw7, sets_other _ _ _ _ (by omega)]; exact HF6.out)
            have hwe : ((((w6.setCell ⟨w.heap.size, 0, none⟩ (.slice (some ad) l.length c)).setCell ⟨w.heap.size, 1, none⟩ (.int .i64 room)).setCell ⟨w.heap.size, 2, none⟩ (.slice none 0 0)).setCell ⟨w.heap.size, 3, none⟩ (.int .i64 (next + 1))).setCell ⟨w.heap.size, 4, none⟩ (.bool false) = w7 := hw7
            rw [hwe]
            clear hw7 hwe x0 x1 x2 x3 x4 fzx
            obtain ⟨x0, x1, x2, x3, x4⟩ := rd_cells HX7.out
            have y0 : w7.cell? ⟨w3.heap.size, 0, none⟩ = some (.string nme) := cell_in HF7.out 0
            have y1 : w7.cell? ⟨w3.heap.size, 1, none⟩ = some (.string f.sure) := cell_in HF7.out 1
            have y2 : w7.cell? ⟨w3.heap.size, 2, none⟩ = some (.bool f.there) := cell_in HF7.out 2
            have y3 : w7.cell? ⟨w3.heap.size, 3, none⟩ = some (.slice A2 f.loose.length c2) := cell_in HF7.out 3
            have x0d : w7.drew.cell? ⟨w.heap.size, 0, none⟩ = some (.slice (some ad) l.length c) := x0
            have x1d : w7.drew.cell? ⟨w.heap.size, 1, none⟩ = some (.int .i64 room) := x1
            have x2d : w7.drew.cell? ⟨w.heap.size, 2, none⟩ = some (.slice none 0 0) := x2
            have x3d : w7.drew.cell? ⟨w.heap.size, 3, none⟩ = some (.int .i64 (next + 1)) := x3
            have x4d : w7.drew.cell? ⟨w.heap.size, 4, none⟩ = some (.bool false) := x4
            have y0d : w7.drew.cell? ⟨w3.heap.size, 0, none⟩ = some (.string nme) := y0
            have y1d : w7.drew.cell? ⟨w3.heap.size, 1, none⟩ = some (.string f.sure) := y1
            have y2d : w7.drew.cell? ⟨w3.heap.size, 2, none⟩ = some (.bool f.there) := y2
            have y3d : w7.drew.cell? ⟨w3.heap.size, 3, none⟩ = some (.slice A2 f.loose.length c2) := y3
            have HWi : Hid (∀ W, Below w7.heap.size w7 W → Calls Try.prog 56 #[.agg #[.slice (some ad) l.length c, .int .i64 room, .slice none 0 0, .int .i64 (next + 1), .bool false], .agg #[.string nme, .string (f.now.extract 0 k.toNat), .bool true, .slice none 0 0]] W fun e w' => ∃ vf', e = .returned (.agg #[vf', .int .i64 room, .slice none 0 0, .int .i64 (next + 1), .bool false]) ∧ Kd.R kF 75 w' 0 (fun _ => True) vf' (putS l nme ⟨f.now.extract 0 k.toNat, true, []⟩) ∧ Below W.heap.size W w') := Lib.hid (fun W hW => rwith l (.slice (some ad) l.length c) (.slice none 0 0) room (next + 1) false nme ⟨f.now.extract 0 k.toNat, true, []⟩ W (R_below2 Hh.out (HB7.out.trans (hW.mono HB7.out.size))) (Kd.R_nil _ _ _ _ _) hl HRi.out)
            have hk2 : 0 ≤ k := by omega
            have hk3 : k ≤ (f.now.size : Int) := by omega
            go_region_held3 (fun w' => w'.cell? ⟨w.heap.size, 0, none⟩ = some (.slice (some ad) l.length c) ∧ w'.cell? ⟨w.heap.size, 1, none⟩ = some (.int .i64 room) ∧ w'.cell? ⟨w.heap.size, 2, none⟩ = some (.slice none 0 0) ∧ w'.cell? ⟨w.heap.size, 3, none⟩ = some (.int .i64 (next + 1)) ∧ w'.cell? ⟨w.heap.size, 4, none⟩ = some (.bool false) ∧ w'.cell? ⟨w3.heap.size, 0, none⟩ = some (.string nme) ∧ w'.cell? ⟨w3.heap.size, 1, none⟩ = some (.string f.sure) ∧ w'.cell? ⟨w3.heap.size, 2, none⟩ = some (.bool f.there) ∧ w'.cell? ⟨w3.heap.size, 3, none⟩ = some (.slice A2 f.loose.length c2))
            (first
              | with_reducible exact ⟨x0d, x1d, x2d, x3d, x4d, y0d, y1d, y2d, y3d⟩
              | (go_split_ands; with_reducible ((refine ⟨?_, ?_, ?_, ?_, ?_, ?_, ?_, ?_, ?_⟩) <;> assumption))
              | (go_split_ands; with_reducible ((refine held9 hsR ?_ ?_ ?_ ?_ ?_ ?_ ?_ ?_ ?_) <;> assumption))
              | (go_split_ands; with_reducible ((refine held9 hsS ?_ ?_ ?_ ?_ ?_ ?_ ?_ ?_ ?_) <;> assumption))
              | (with_reducible (refine (?_ : (World.setCell _ _ _).cell? _ = _ ∧ _)); go_split_ands; exact ⟨cell_set5 (by with_reducible assumption) (by omega), cell_set5 (by with_reducible assumption) (by omega), cell_set5 (by with_reducible assumption) (by omega), cell_set5 (by with_reducible assumption) (by omega), cell_set5 (by with_reducible assumption) (by omega), cell_set5 (by with_reducible assumption) (by omega), cell_set5 (by with_reducible assumption) (by omega), cell_set5 (by with_reducible assumption) (by omega), cell_set5 (by with_reducible assumption) (by omega)⟩))
            (first
              | (go_at_call 58; refine (rsettled _ _ _ _ _ _ _).mono ?_; rintro e' wS ⟨rfl, hsS⟩; have hcS : Below w7.heap.size w7 wS := (by first | exact tr_below (by assumption) hsS | exact hsS | exact tr_below (below_drew (Below.refl _ _)) hsS | exact tr_below (pw_below_drewN (Below.refl _ _) _) hsS))
              | (go_at_call 56; refine (HWi.out _ (by first | assumption | exact below_drew (Below.refl _ _) | exact pw_below_drewN (Below.refl _ _) _)).mono ?_; rintro e' wR ⟨vR, rfl, hRr, hsR⟩; have hcR : Below w7.heap.size w7 wR := (by first | exact tr_below (by assumption) hsR | exact hsR | exact tr_below (below_drew (Below.refl _ _)) hsR | exact tr_below (pw_below_drewN (Below.refl _ _) _) hsR); obtain ⟨A3, c3, hv3⟩ := Kd.R_slice hRr; obtain ⟨m3, hm3⟩ : ∃ m3, m3 = (putS l nme ⟨f.now.extract 0 k.toNat, true, []⟩).length := ⟨_, rfl⟩; rw [← hm3] at hv3; subst hv3; have HYR := Lib.hid ((hcR.block _ (blk_lt HY7.out)).trans HY7.out); obtain ⟨z0, z1, z2, z3, z4⟩ := rd_cells HYR.out; have fzR := free_in HYR.out))
            subst hm3
            have HBR := Lib.hid (HB7.out.trans (hcR.mono HB7.out.size))
            have HRR := Lib.hid hRr
            clear hcR hcS hRr hsR hsS
            go_wp2_with fail
            refine bodyPost_ret (results_ct rfl _ _ (w.heap.size + 1) 29 #[.slice A3 (putS l nme ⟨f.now.extract 0 k.toNat, true, []⟩).length c3, .int .i64 room, .slice none 0 0, .int .i64 (next + 1), .bool false] (0, 0) _ rfl (blk_set (blk_set (blk_set (blk_set (blk_set HYR.out 0 _) 1 _) 2 _) 3 _) 4 _) Try.underlying29 rfl (by kernel_rfl)) rfl ?_
            rw [HQ.out]
            refine ⟨fun e hk => ?_, fun f' _ _ h => (by cases h), fun f' _ hg' _ _ _ => ?_⟩
            · exfalso
              rcases hk with h | h | h
              · have := h.2; rw [hn1'] at this; cases this
              · have := h.2.2; rw [Hg.out] at this; cases this
              · obtain ⟨f', h', _, h⟩ := h.2.2; rw [Hg.out] at h'; cases h'; omega
            · rw [Hg.out] at hg'
              cases hg'
              exact ⟨_, rfl, R_sets HRR.out HYR.out (by decide) [(0, _), (1, _), (2, _), (3, _), (4, _)], below_sets HBR.out (by omega) [(0, _), (1, _), (2, _), (3, _), (4, _)]⟩
end Go.Proofs.YtcongfiojbajeaaK
