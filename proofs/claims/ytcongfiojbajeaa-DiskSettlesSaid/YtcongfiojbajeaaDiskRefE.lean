/- The document's disk: Put refused; Move: the walks. Conditions: the state is small; no falls are laid; the power is on. -/
import Derived.Test.YtcongfiojbajeaaDiskRefD
namespace Go.Proofs.YtcongfiojbajeaaK
open Go Go.RowKit Go.Maps Go.Proofs.YtcongfiojbajeaaM Go.Proofs.YtcongfiojbajeaaW.PrintWords Go.Proofs.YtcongfiojbajeaaN
set_option linter.unusedVariables false
set_option linter.unusedSimpArgs false
set_option maxHeartbeats 2000000 in
set_option maxRecDepth 100000 in
theorem rput_no (A : Option Addr) (n c : Nat) (room next : Int) (nme : ByteArray) (p : ByteArray × Bool) (w : World) (hnme : nme.size ≤ 9223372036854775807) (hnm : nm nme = false) :
    Calls Try.prog 40 #[.agg #[.slice A n c, .int .i64 room, .slice none 0 0, .int .i64 next, .bool false], .string nme, .agg #[.string p.1, .bool p.2]] w fun e' w' => e' = .returned (.tuple #[.agg #[.slice A n c, .int .i64 room, .slice none 0 0, .int .i64 next, .bool false], .int .i64 60]) ∧ Below w.heap.size w w' := by
  obtain ⟨w1, hw1⟩ : ∃ w1, w.alloc (rd (.slice A n c) room next false) = w1 := ⟨_, rfl⟩
  have HB1 := Lib.hid (show Below w.heap.size w w1 by rw [← hw1]; exact (Below.refl _ _).alloc (Nat.le_refl _) _)
  have hx1 : w1.heap[w.heap.size]? = some (rd (.slice A n c) room next false) := by rw [← hw1]; exact alloc_at w _
  have hs1 : w1.heap.size = w.heap.size + 1 := by rw [← hw1]; simp
  obtain ⟨w1b, hw1b⟩ : ∃ w1b, w1.alloc (.cells #[.string p.1, .bool p.2] 78) = w1b := ⟨_, rfl⟩
  have HB1b := Lib.hid (show Below w.heap.size w w1b by rw [← hw1b]; exact HB1.out.alloc HB1.out.size _)
  have hx1b : w1b.heap[w.heap.size]? = some (rd (.slice A n c) room next false) := by rw [← hw1b]; exact (Below.heap_alloc w1 _ _ (blk_lt hx1)).trans hx1
  have hs1b : w1b.heap.size = w.heap.size + 2 := by rw [← hw1b]; simp; omega
  obtain ⟨w2, hw2⟩ : ∃ w2, w1b.alloc rz = w2 := ⟨_, rfl⟩
  have HB2 := Lib.hid (show Below w.heap.size w w2 by rw [← hw2]; exact HB1b.out.alloc HB1b.out.size _)
  have HX2 := Lib.hid (show w2.heap[w.heap.size]? = some (rd (.slice A n c) room next false) by rw [← hw2]; exact (Below.heap_alloc w1b _ _ (blk_lt hx1b)).trans hx1b)
  have HY2 := Lib.hid (show w2.heap[w.heap.size + 2]? = some rz by rw [← hw2, ← hs1b]; exact alloc_at w1b _)
  obtain ⟨x0, x1, x2, x3, x4⟩ := rd_cells HX2.out
  obtain ⟨z0, z1, z2, z3, z4⟩ := rd_cells HY2.out
  have fz2 := free_in HY2.out
  have HN := Lib.hid (ref_any nme hnme w2)
  rw [hnm] at HN
  clear hx1 hx1b
  go_enter Try.func40, Try.ntmps40
  go_wp2_with fail
  refine HN.out.mono ?_
  rintro e' w3 ⟨rfl, hw3⟩
  subst hw3
  go_wp2_with fail
  refine bodyPost_ret (results_ct rfl _ _ (w.heap.size + 2) 29 #[.slice A n c, .int .i64 room, .slice none 0 0, .int .i64 next, .bool false] (0, 0) _ rfl (blk_set (blk_set (blk_set (blk_set (blk_set HY2.out 0 _) 1 _) 2 _) 3 _) 4 _) Try.underlying29 rfl (by kernel_rfl)) rfl ?_
  exact ⟨rfl, below_sets HB2.out (by omega) [(0, _), (1, _), (2, _), (3, _), (4, _)]⟩
theorem held9 {W W' : World} {a b c d e f g h i : Addr} {va vb vc vd ve vf vg vh vi : Value} (hb : Below W.heap.size W W') (x1 : W.cell? a = some va) (x2 : W.cell? b = some vb) (x3 : W.cell? c = some vc) (x4 : W.cell? d = some vd) (x5 : W.cell? e = some ve) (x6 : W.cell? f = some vf) (x7 : W.cell? g = some vg) (x8 : W.cell? h = some vh) (x9 : W.cell? i = some vi) :
    W'.cell? a = some va ∧ W'.cell? b = some vb ∧ W'.cell? c = some vc ∧ W'.cell? d = some vd ∧ W'.cell? e = some ve ∧ W'.cell? f = some vf ∧ W'.cell? g = some vg ∧ W'.cell? h = some vh ∧ W'.cell? i = some vi :=
  have hh := Below.refl W.heap.size W
  ⟨(held_below hb x1 hh).1, (held_below hb x2 hh).1, (held_below hb x3 hh).1, (held_below hb x4 hh).1, (held_below hb x5 hh).1, (held_below hb x6 hh).1, (held_below hb x7 hh).1, (held_below hb x8 hh).1, (held_below hb x9 hh).1⟩
theorem cell_sets {W : World} {k j : Nat} {sp : Option Nat} {v : Value} (g : Nat) (l : List (Nat × Value)) (h : W.cell? ⟨k, j, sp⟩ = some v) (hne : k ≠ g) : (setsOf W g l).cell? ⟨k, j, sp⟩ = some v := by
  unfold World.cell? at h ⊢
  rw [sets_other W g k l hne]
  exact h
theorem cell_set5 {W : World} {k j g : Nat} {sp : Option Nat} {v a b c d e : Value} (h : W.cell? ⟨k, j, sp⟩ = some v) (hne : k ≠ g) : (((((W.setCell ⟨g, 0, none⟩ a).setCell ⟨g, 1, none⟩ b).setCell ⟨g, 2, none⟩ c).setCell ⟨g, 3, none⟩ d).setCell ⟨g, 4, none⟩ e).cell? ⟨k, j, sp⟩ = some v := cell_sets g [(0, a), (1, b), (2, c), (3, d), (4, e)] h hne
theorem tr_below {n : Nat} {w W W' : World} (h : Below n w W) (h2 : Below W.heap.size W W') (hn : n ≤ w.heap.size := by exact Nat.le_refl _) : Below n w W' := h.trans (h2.mono (Nat.le_trans hn (by have := h.size; omega)))
/-- The errors that a file that is not there, or a bad name, gives. -/
noncomputable def thereR (l : List (ByteArray × PF)) (s : ByteArray) : Int := if nm s = false then 60 else match get l s with | none => 2 | some _ => 0
set_option maxHeartbeats 8000000 in
set_option maxRecDepth 100000 in
theorem rmove (l : List (ByteArray × PF)) (vf : Value) (room next : Int) (nme tn : ByteArray) (w : World) (h : Kd.R kF 75 w 0 (fun _ => True) vf l) (hl : l.length ≤ 1000000) (hr : Rises l) (hs : ∀ p ∈ l, p.2.vol ≤ 1000000 ∧ p.2.loose.length ≤ 1000000) (hn : 0 ≤ next ∧ next ≤ 1000000)
    (hnme : nme.size ≤ 9223372036854775807) (hto : tn.size ≤ 9223372036854775807) :
    Calls Try.prog 41 #[.agg #[vf, .int .i64 room, .slice none 0 0, .int .i64 next, .bool false], .string nme, .string tn] w fun e' w' =>
      (∀ k : Int, ((k = 60 ∧ nm nme = false) ∨ (k = 2 ∧ nm nme = true ∧ get l nme = none) ∨ (k = 60 ∧ nm nme = true ∧ (get l nme).isSome = true ∧ nm tn = false) ∨ (k = 1 ∧ nm nme = true ∧ (get l nme).isSome = true ∧ nm tn = true ∧ nme = tn)) → e' = .returned (.tuple #[.agg #[vf, .int .i64 room, .slice none 0 0, .int .i64 next, .bool false], .int .i64 k]) ∧ Below w.heap.size w w') ∧
      (∀ f, nm nme = true → get l nme = some f → nm tn = true → nme ≠ tn → ∃ vf', e' = .returned (.tuple #[.agg #[vf', .int .i64 room, .slice none 0 0, .int .i64 (next + 1), .bool false], .int .i64 0]) ∧ Kd.R kF 75 w' 0 (fun _ => True) vf' (putS (delL l nme) tn f.settled) ∧ Below w.heap.size w w') := by
  obtain ⟨w1, hw1⟩ : ∃ w1, w.alloc (rd vf room next false) = w1 := ⟨_, rfl⟩
  have HB1 := Lib.hid (show Below w.heap.size w w1 by rw [← hw1]; exact (Below.refl _ _).alloc (Nat.le_refl _) _)
  have hx1 : w1.heap[w.heap.size]? = some (rd vf room next false) := by rw [← hw1]; exact alloc_at w _
  have hs1 : w1.heap.size = w.heap.size + 1 := by rw [← hw1]; simp
  obtain ⟨w2, hw2⟩ : ∃ w2, w1.alloc rz = w2 := ⟨_, rfl⟩
  have HB2 := Lib.hid (show Below w.heap.size w w2 by rw [← hw2]; exact HB1.out.alloc HB1.out.size _)
  have HX2 := Lib.hid (show w2.heap[w.heap.size]? = some (rd vf room next false) by rw [← hw2]; exact (Below.heap_alloc w1 _ _ (blk_lt hx1)).trans hx1)
  have HY2 := Lib.hid (show w2.heap[w.heap.size + 1]? = some rz by rw [← hw2, ← hs1]; exact alloc_at w1 _)
  obtain ⟨x0, x1, x2, x3, x4⟩ := rd_cells HX2.out
  have HN := Lib.hid (fun W => ref_any nme hnme W)
  have HT := Lib.hid (fun W => ref_any tn hto W)
  have HH := Lib.hid (R_below2 h HB2.out)
  obtain ⟨A, c, rfl, hlc, hRR⟩ := rows_read HH.out
  have HCw := Lib.hid (C_of_R h)
  have Hh := Lib.hid h
  have HFd := Lib.hid (rfind l A c (.int .i64 room) (.slice none 0 0) (.int .i64 next) (.bool false) nme w2 (C_of_R HH.out) hl)
  have HRi := Lib.hid hr
  have HS := Lib.hid hs
  have hn0 := hn.1
  have hn1 := hn.2
  obtain ⟨bi, hbi⟩ : ∃ bi, bi = isI l nme := ⟨_, rfl⟩
  obtain ⟨n, hnx⟩ : ∃ n, n = idx l nme := ⟨_, rfl⟩
  rw [← hbi, ← hnx] at HFd
  have HI := Lib.hid (And.intro hbi hnx)
  clear hx1 h hr hRR hs hn hbi hnx
  go_enter Try.func41, Try.ntmps41
  go_wp2_with fail
  refine HFd.out.mono ?_
  rintro e' w3 ⟨rfl, hb3⟩
  have HX3 := Lib.hid ((hb3.block _ (blk_lt HX2.out)).trans HX2.out)
  have HY3 := Lib.hid ((hb3.block _ (blk_lt HY2.out)).trans HY2.out)
  have HB3 := Lib.hid (HB2.out.trans (hb3.mono HB2.out.size))
  clear x0 x1 x2 x3 x4 HFd hb3
  obtain ⟨x0, x1, x2, x3, x4⟩ := rd_cells HX3.out
  obtain ⟨z0, z1, z2, z3, z4⟩ := rd_cells HY3.out
  have fz2 := free_in HY3.out
  have hs3 : w.heap.size + 1 < w3.heap.size := blk_lt HY3.out
  have HBr := Lib.hid (fun l => below_sets (l := l) HB3.out (show w.heap.size ≤ w.heap.size + 1 by omega))
  go_wp2_with fail
  refine (HN.out _).mono ?_
  rintro e' w4 ⟨rfl, hw4⟩
  subst hw4
  cases hn1' : nm nme with
  | false =>
    go_wp2_with fail
    refine bodyPost_ret (results_ct rfl _ _ (w.heap.size + 1) 29 #[.slice A l.length c, .int .i64 room, .slice none 0 0, .int .i64 next, .bool false] (0, 0) _ rfl (blk_set (blk_set (blk_set (blk_set (blk_set HY3.out 0 _) 1 _) 2 _) 3 _) 4 _) Try.underlying29 rfl (by kernel_rfl)) rfl ?_
    refine ⟨fun k hk => ?_, fun f h => (by rw [hn1'] at h; cases h)⟩
    obtain rfl : k = 60 := by rcases hk with h | h | h | h <;> first | exact h.1 | (have := h.2.1; rw [hn1'] at this; cases this)
    exact ⟨rfl, HBr.out [(0, _), (1, _), (2, _), (3, _), (4, _)]⟩
  | true =>
    cases bi with
    | false =>
      have hg := (isI_get HRi.out nme).2 HI.out.1.symm
      have Hg := Lib.hid hg
      clear hg
      go_wp2_with fail
      refine bodyPost_ret (results_ct rfl _ _ (w.heap.size + 1) 29 #[.slice A l.length c, .int .i64 room, .slice none 0 0, .int .i64 next, .bool false] (0, 0) _ rfl (blk_set (blk_set (blk_set (blk_set (blk_set HY3.out 0 _) 1 _) 2 _) 3 _) 4 _) Try.underlying29 rfl (by kernel_rfl)) rfl ?_
      refine ⟨fun k hk => ?_, fun f _ h => (by rw [Hg.out] at h; cases h)⟩
      obtain rfl : k = 2 := by
        rcases hk with h | h | h | h
        · have := h.2; rw [hn1'] at this; cases this
        · exact h.1
        · have := h.2.2.1; rw [Hg.out] at this; cases this
        · have := h.2.2.1; rw [Hg.out] at this; cases this
      exact ⟨rfl, HBr.out [(0, _), (1, _), (2, _), (3, _), (4, _)]⟩
    | true =>
      obtain ⟨hlt, f, hat, hgt⟩ := (isI_get HRi.out nme).1 HI.out.1.symm
      have hlt' : n < l.length := by rw [HI.out.2]; exact hlt
      have HA := Lib.hid (show l[n] = (nme, f) by rw [← hat]; congr 1; exact HI.out.2)
      have Hg := Lib.hid hgt
      clear hlt hat hgt
      go_wp2_with fail
      refine (HT.out _).mono ?_
      rintro e' w4 ⟨rfl, hw4⟩
      subst hw4
      cases hn2' : nm tn with
      | false =>
        go_wp2_with fail
        refine bodyPost_ret (results_ct rfl _ _ (w.heap.size + 1) 29 #[.slice A l.length c, .int .i64 room, .slice none 0 0, .int .i64 next, .bool false] (0, 0) _ rfl (blk_set (blk_set (blk_set (blk_set (blk_set HY3.out 0 _) 1 _) 2 _) 3 _) 4 _) Try.underlying29 rfl (by kernel_rfl)) rfl ?_
        refine ⟨fun k hk => ?_, fun f _ _ h => (by rw [hn2'] at h; cases h)⟩
        obtain rfl : k = 60 := by
          rcases hk with h | h | h | h
          · exact h.1
          · have := h.2.2; rw [Hg.out] at this; cases this
          · exact h.1
          · have := h.2.2.2.1; rw [hn2'] at this; cases this
        exact ⟨rfl, HBr.out [(0, _), (1, _), (2, _), (3, _), (4, _)]⟩
      | true =>
        by_cases hst : nme = tn
        · have hbeq : (nme.toList == tn.toList) = true := by rw [hst]; exact beq_iff_eq.2 rfl
          have Hst := Lib.hid hst
          clear hst
          go_wp2_with fail
          refine bodyPost_ret (results_ct rfl _ _ (w.heap.size + 1) 29 #[.slice A l.length c, .int .i64 room, .slice none 0 0, .int .i64 next, .bool false] (0, 0) _ rfl (blk_set (blk_set (blk_set (blk_set (blk_set HY3.out 0 _) 1 _) 2 _) 3 _) 4 _) Try.underlying29 rfl (by kernel_rfl)) rfl ?_
          refine ⟨fun k hk => ?_, fun f _ _ _ h => absurd Hst.out h⟩
          obtain rfl : k = 1 := by
            rcases hk with h | h | h | h
            · have := h.2; rw [hn1'] at this; cases this
            · have := h.2.2; rw [Hg.out] at this; cases this
            · have := h.2.2.2; rw [hn2'] at this; cases this
            · exact h.1
          exact ⟨rfl, HBr.out [(0, _), (1, _), (2, _), (3, _), (4, _)]⟩
        · have hbeq : (nme.toList == tn.toList) = false := beq_eq_false_iff_ne.2 (fun e => hst (bytes_same e))
          have Hst := Lib.hid hst
          clear hst
          obtain ⟨ad, A2, c2, rfl, ⟨v0, v1, v2, v3⟩, hle, hC⟩ := agg_read HCw.out n hlt' hlt'
          rw [HA.out] at v0 v1 v2 v3 hle hC
          simp only at v0 v1 v2 v3 hle hC
          have y0 := (held_below HB3.out v0 (Below.refl _ _)).1
          have y1 := (held_below HB3.out v1 (Below.refl _ _)).1
          have y2 := (held_below HB3.out v2 (Below.refl _ _)).1
          have y3 := (held_below HB3.out v3 (Below.refl _ _)).1
          have p0 : (0 ≤ (n : Int)) = True := eq_true (by omega)
          have p1 : ((n : Int) < (l.length : Int)) = True := eq_true (by omega)
          have HRd := Lib.hid hC
          obtain ⟨w4, hw4⟩ : ∃ w4, w3.alloc (.cells #[.string nme, .string f.sure, .bool f.there, .slice A2 f.loose.length c2] 75) = w4 := ⟨_, rfl⟩
          have HB34 := Lib.hid (show Below w.heap.size w w4 by rw [← hw4]; exact HB3.out.alloc HB3.out.size _)
          have HF4 := Lib.hid (show w4.heap[w3.heap.size]? = some (.cells #[.string nme, .string f.sure, .bool f.there, .slice A2 f.loose.length c2] 75 (0, 0)) by rw [← hw4]; exact alloc_at w3 _)
          have HX4 := Lib.hid (show w4.heap[w.heap.size]? = some (rd (.slice (some ad) l.length c) room next false) by rw [← hw4]; exact (Below.heap_alloc w3 _ _ (blk_lt HX3.out)).trans HX3.out)
          have HY4 := Lib.hid (show w4.heap[w.heap.size + 1]? = some rz by rw [← hw4]; exact (Below.heap_alloc w3 _ _ (blk_lt HY3.out)).trans HY3.out)
          obtain ⟨u0, u1, u2, u3, u4⟩ := rd_cells HX4.out
          have fz4 := free_in HX4.out
          have HSt := Lib.hid (rstrike (some ad) l.length c room next false w4 ⟨hn0, hn1⟩)
          clear v0 v1 v2 v3 hle hC z0 z1 z2 z3 z4 fz2
          go_wp2_with fail
          refine HSt.out.mono ?_
          rintro e' w5 ⟨rfl, hb5⟩
          have HX5 := Lib.hid ((hb5.block _ (blk_lt HX4.out)).trans HX4.out)
          have HY5 := Lib.hid ((hb5.block _ (blk_lt HY4.out)).trans HY4.out)
          have HF5 := Lib.hid ((hb5.block _ (blk_lt HF4.out)).trans HF4.out)
          have HB5 := Lib.hid (HB34.out.trans (hb5.mono HB34.out.size))
          clear x0 x1 x2 x3 x4 y0 y1 y2 y3 u0 u1 u2 u3 u4 fz4 hb5
          obtain ⟨x0, x1, x2, x3, x4⟩ := rd_cells HX5.out
          have fzx := free_in HX5.out
          go_upto_region 16 with fail
          obtain ⟨w6, hw6⟩ : ∃ w6, setsOf w5 w.heap.size [(0, .slice (some ad) l.length c), (1, .int .i64 room), (2, .slice none 0 0), (3, .int .i64 (next + 1)), (4, .bool false)] = w6 := ⟨_, rfl⟩
          have HB6 := Lib.hid (show Below w.heap.size w w6 by rw [← hw6]; exact below_sets HB5.out (Nat.le_refl _) _)
          have HX6 := Lib.hid (show w6.heap[w.heap.size]? = some (rd (.slice (some ad) l.length c) room (next + 1) false) by rw [← hw6]; exact blk_set (blk_set (blk_set (blk_set (blk_set HX5.out 0 _) 1 _) 2 _) 3 _) 4 _)
          have HY6 := Lib.hid (show w6.heap[w.heap.size + 1]? = some rz by rw [← hw6, sets_other _ _ _ _ (by omega)]; exact HY5.out)
          have HF6 := Lib.hid (show w6.heap[w3.heap.size]? = some (.cells #[.string nme, .string f.sure, .bool f.there, .slice A2 f.loose.length c2] 75 (0, 0)) by rw [← hw6, sets_other _ _ _ _ (by omega)]; exact HF5.out)
          have hwe : ((((w5.setCell ⟨w.heap.size, 0, none⟩ (.slice (some ad) l.length c)).setCell ⟨w.heap.size, 1, none⟩ (.int .i64 room)).setCell ⟨w.heap.size, 2, none⟩ (.slice none 0 0)).setCell ⟨w.heap.size, 3, none⟩ (.int .i64 (next + 1))).setCell ⟨w.heap.size, 4, none⟩ (.bool false) = w6 := hw6
          rw [hwe]
          clear hw6 hwe x0 x1 x2 x3 x4 fzx
          obtain ⟨x0, x1, x2, x3, x4⟩ := rd_cells HX6.out
          have y0 : w6.cell? ⟨w3.heap.size, 0, none⟩ = some (.string nme) := cell_in HF6.out 0
          have y1 : w6.cell? ⟨w3.heap.size, 1, none⟩ = some (.string f.sure) := cell_in HF6.out 1
          have y2 : w6.cell? ⟨w3.heap.size, 2, none⟩ = some (.bool f.there) := cell_in HF6.out 2
          have y3 : w6.cell? ⟨w3.heap.size, 3, none⟩ = some (.slice A2 f.loose.length c2) := cell_in HF6.out 3
          have hfm := HS.out _ (get_mem Hg.out)
          have HWo := Lib.hid (fun W (hW : Below w6.heap.size w6 W) => rwithout l (.slice (some ad) l.length c) room (next + 1) false nme W (R_below2 Hh.out (HB6.out.trans (hW.mono HB6.out.size))) hl HRi.out)
          have HBy := Lib.hid (fun W (hW : Below w6.heap.size w6 W) => rbytes nme f A2 c2 W (Kd.C_below HRd.out (HB6.out.trans (hW.mono HB6.out.size))) hfm.1 hfm.2)
          have HDl := Lib.hid (show (delL l nme).length ≤ 1000000 from Nat.le_trans (List.length_filter_le _ _) hl)
          have HDr := Lib.hid (HRi.out.delL nme)
          have HWi := Lib.hid (fun (W : World) (vW : Value) (hR : Kd.R kF 75 W 0 (fun _ => True) vW (delL l nme)) => rwith (delL l nme) vW (.slice none 0 0) room (next + 1) false tn f.settled W hR (Kd.R_nil _ _ _ _ _) HDl.out HDr.out)
          have HWi' : Hid (∀ (W : World) (vW : Value), Kd.R kF 75 W 0 (fun _ => True) vW (delL l nme) → Calls Try.prog 56 #[.agg #[vW, .int .i64 room, .slice none 0 0, .int .i64 (next + 1), .bool false], .agg #[.string tn, .string f.now, .bool true, .slice none 0 0]] W fun e w' => ∃ vf', e = .returned (.agg #[vf', .int .i64 room, .slice none 0 0, .int .i64 (next + 1), .bool false]) ∧ Kd.R kF 75 w' 0 (fun _ => True) vf' (putS (delL l nme) tn f.settled) ∧ Below W.heap.size W w') := HWi
          clear hfm HWi
          have HWi := Lib.hid HWi'.out
          clear HWi'
          have x0d : w6.drew.cell? ⟨w.heap.size, 0, none⟩ = some (.slice (some ad) l.length c) := x0
          have x1d : w6.drew.cell? ⟨w.heap.size, 1, none⟩ = some (.int .i64 room) := x1
          have x2d : w6.drew.cell? ⟨w.heap.size, 2, none⟩ = some (.slice none 0 0) := x2
          have x3d : w6.drew.cell? ⟨w.heap.size, 3, none⟩ = some (.int .i64 (next + 1)) := x3
          have x4d : w6.drew.cell? ⟨w.heap.size, 4, none⟩ = some (.bool false) := x4
          have y0d : w6.drew.cell? ⟨w3.heap.size, 0, none⟩ = some (.string nme) := y0
          have y1d : w6.drew.cell? ⟨w3.heap.size, 1, none⟩ = some (.string f.sure) := y1
          have y2d : w6.drew.cell? ⟨w3.heap.size, 2, none⟩ = some (.bool f.there) := y2
          have y3d : w6.drew.cell? ⟨w3.heap.size, 3, none⟩ = some (.slice A2 f.loose.length c2) := y3
          go_region_held3 (fun w' => w'.cell? ⟨w.heap.size, 0, none⟩ = some (.slice (some ad) l.length c) ∧ w'.cell? ⟨w.heap.size, 1, none⟩ = some (.int .i64 room) ∧ w'.cell? ⟨w.heap.size, 2, none⟩ = some (.slice none 0 0) ∧ w'.cell? ⟨w.heap.size, 3, none⟩ = some (.int .i64 (next + 1)) ∧ w'.cell? ⟨w.heap.size, 4, none⟩ = some (.bool false) ∧ w'.cell? ⟨w3.heap.size, 0, none⟩ = some (.string nme) ∧ w'.cell? ⟨w3.heap.size, 1, none⟩ = some (.string f.sure) ∧ w'.cell? ⟨w3.heap.size, 2, none⟩ = some (.bool f.there) ∧ w'.cell? ⟨w3.heap.size, 3, none⟩ = some (.slice A2 f.loose.length c2))
            (first
              | with_reducible exact ⟨x0d, x1d, x2d, x3d, x4d, y0d, y1d, y2d, y3d⟩
              | (go_split_ands; with_reducible ((refine ⟨?_, ?_, ?_, ?_, ?_, ?_, ?_, ?_, ?_⟩) <;> assumption))
              | (go_split_ands; with_reducible ((refine held9 hsR ?_ ?_ ?_ ?_ ?_ ?_ ?_ ?_ ?_) <;> assumption))
              | (go_split_ands; with_reducible ((refine held9 hsS ?_ ?_ ?_ ?_ ?_ ?_ ?_ ?_ ?_) <;> assumption))
              | (go_split_ands; with_reducible ((refine held9 hsB ?_ ?_ ?_ ?_ ?_ ?_ ?_ ?_ ?_) <;> assumption))
              | (go_split_ands; with_reducible ((refine held9 hsW ?_ ?_ ?_ ?_ ?_ ?_ ?_ ?_ ?_) <;> assumption))
              | (with_reducible (refine (?_ : (World.setCell _ _ _).cell? _ = _ ∧ _)); go_split_ands; exact ⟨cell_set5 (by with_reducible assumption) (by omega), cell_set5 (by with_reducible assumption) (by omega), cell_set5 (by with_reducible assumption) (by omega), cell_set5 (by with_reducible assumption) (by omega), cell_set5 (by with_reducible assumption) (by omega), cell_set5 (by with_reducible assumption) (by omega), cell_set5 (by with_reducible assumption) (by omega), cell_set5 (by with_reducible assumption) (by omega), cell_set5 (by with_reducible assumption) (by omega)⟩))
            (first
              | (go_at_call 57; refine (HWo.out _ (by first | assumption | exact below_drew (Below.refl _ _) | exact pw_below_drewN (Below.refl _ _) _)).mono ?_; rintro e' wW ⟨vW, rfl, hRw, hsW⟩; have hcW : Below w6.heap.size w6 wW := (by first | exact tr_below (by assumption) hsW | exact hsW | exact tr_below (below_drew (Below.refl _ _)) hsW | exact tr_below (pw_below_drewN (Below.refl _ _) _) hsW))
              | (go_at_call 36; refine (HBy.out _ (by first | assumption | exact below_drew (Below.refl _ _) | exact pw_below_drewN (Below.refl _ _) _)).mono ?_; rintro e' wB ⟨rfl, hsB⟩; have hcB : Below w6.heap.size w6 wB := (by first | exact tr_below (by assumption) hsB | exact hsB | exact tr_below (below_drew (Below.refl _ _)) hsB | exact tr_below (pw_below_drewN (Below.refl _ _) _) hsB))
              | (go_at_call 58; refine (rsettled _ _ _ _ _ _ _).mono ?_; rintro e' wS ⟨rfl, hsS⟩; have hcS : Below w6.heap.size w6 wS := (by first | exact tr_below (by assumption) hsS | exact hsS | exact tr_below (below_drew (Below.refl _ _)) hsS | exact tr_below (pw_below_drewN (Below.refl _ _) _) hsS))
              | (go_at_call 56; refine (HWi.out _ _ (by first | exact hRw | exact R_below2 hRw hsB | exact R_below2 hRw hsS | exact R_below2 (R_below2 hRw hsB) hsS | exact R_below2 (R_below2 hRw hsS) hsB)).mono ?_; rintro e' wR ⟨vR, rfl, hRr, hsR⟩; have hcR : Below w6.heap.size w6 wR := (by first | exact tr_below (by assumption) hsR | exact hsR | exact tr_below (below_drew (Below.refl _ _)) hsR | exact tr_below (pw_below_drewN (Below.refl _ _) _) hsR); obtain ⟨A3, c3, hv3⟩ := Kd.R_slice hRr; obtain ⟨m3, hm3⟩ : ∃ m3, m3 = (putS (delL l nme) tn f.settled).length := ⟨_, rfl⟩; rw [← hm3] at hv3; subst hv3; have HYR := Lib.hid ((hcR.block _ (blk_lt HY6.out)).trans HY6.out); obtain ⟨z0, z1, z2, z3, z4⟩ := rd_cells HYR.out; have fzR := free_in HYR.out))
          subst hm3
          have HBR := Lib.hid (HB6.out.trans (hcR.mono HB6.out.size))
          have HRR := Lib.hid hRr
          clear hcR hcS hcB hcW hRr hsR hsS hsB hsW
          go_wp2_with fail
          refine bodyPost_ret (results_ct rfl _ _ (w.heap.size + 1) 29 #[.slice A3 (putS (delL l nme) tn f.settled).length c3, .int .i64 room, .slice none 0 0, .int .i64 (next + 1), .bool false] (0, 0) _ rfl (blk_set (blk_set (blk_set (blk_set (blk_set HYR.out 0 _) 1 _) 2 _) 3 _) 4 _) Try.underlying29 rfl (by kernel_rfl)) rfl ?_
          refine ⟨fun k hk => ?_, fun f' _ hg' _ _ => ?_⟩
          · rcases hk with h | h | h | h
            · have := h.2; rw [hn1'] at this; cases this
            · have := h.2.2; rw [Hg.out] at this; cases this
            · have := h.2.2.2; rw [hn2'] at this; cases this
            · exact absurd h.2.2.2.2 Hst.out
          · rw [Hg.out] at hg'
            cases hg'
            exact ⟨_, rfl, R_sets HRR.out HYR.out (by decide) [(0, _), (1, _), (2, _), (3, _), (4, _)], below_sets HBR.out (by omega) [(0, _), (1, _), (2, _), (3, _), (4, _)]⟩
end Go.Proofs.YtcongfiojbajeaaK
