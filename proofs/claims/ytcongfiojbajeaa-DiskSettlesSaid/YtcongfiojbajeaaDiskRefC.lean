/- The document's disk: a file put in: the walk. Conditions: the state is small. -/
import Derived.Test.YtcongfiojbajeaaDiskRefB
namespace Go.Proofs.YtcongfiojbajeaaK
open Go Go.RowKit Go.Maps Go.Proofs.YtcongfiojbajeaaM Go.Proofs.YtcongfiojbajeaaW.PrintWords Go.Proofs.YtcongfiojbajeaaN
set_option linter.unusedVariables false
set_option linter.unusedSimpArgs false
/-- A file's cells, made. -/
theorem file_made {w : World} {nme : ByteArray} {f : PF} {v : Value} (h : Kd.R kP 78 w 0 (fun _ => True) v f.loose) : kF.M w 0 (fun _ => True) (nme, f) [.string nme, .string f.sure, .bool f.there, v] :=
  ⟨[.string nme], [.string f.sure, .bool f.there, v], rfl, rfl, [.string f.sure], [.bool f.there, v], rfl, rfl, [.bool f.there], [v], rfl, rfl, v, rfl, h⟩
theorem file_old {w : World} {p : ByteArray × PF} {cs : List Value} (h : kF.M w 0 (fun _ => True) p cs) : kF.M w 0 (fun k => k < w.heap.size) p cs := kF.M_mono (fun k hk => hk.2.2.1) (kF.M_bound h)
/-- One file in a block of its own, read. -/
theorem one_read {W : World} {g : Nat} {okp : Nat → Prop} {p : ByteArray × PF} {a b c d : Value} (hb : W.heap[g]? = some (.cells #[a, b, c, d] 75 (0, 0))) (h : kF.M W 0 okp p [a, b, c, d]) : ReadsRow (kF.M W 0 okp) kF.sz W (some ⟨g, 0, none⟩) 1 [p] := by
  refine ⟨rfl, by omega, fun _ => ⟨_, rfl, fun j q hj => ?_⟩⟩
  cases j with
  | succ j => cases hj
  | zero =>
    obtain rfl : p = q := by simpa using hj
    refine ⟨[a, b, c, d], rfl, h, fun i u hu => ?_⟩
    rw [Nat.zero_mul, Nat.zero_add]
    exact World.news_of_block hb i u hu
theorem rows_nil' (w : World) {N : Nat} {ok : Nat → Prop} (hN : w.heap.size = N) (hok : ok N) : Kd.R kF 75 (w.alloc (.cells #[] 75)) 0 ok (.slice (some ⟨N, 0, none⟩) 0 0) [] := by subst hN; exact rows_nil w ok hok
theorem own_is {k g a b : Nat} (h : some k = (Value.slice (some ⟨g, 0, none⟩) a b).ownBlock) : k = g := Option.some.inj h
theorem row_new2 {N M k : Nat} {v1 : Value} {W : World} (hat : v1.ownBlock = (Value.slice (some ⟨M, 0, none⟩) 0 0).ownBlock ∨ ∃ b, v1.ownBlock = some b ∧ W.heap.size ≤ b) (hk : v1.ownBlock = some k) (hM : N ≤ M) (hN : N ≤ W.heap.size) : N ≤ k := by
  rcases hat with h | ⟨b, hb, hle⟩
  · rw [hk] at h
    have : k = M := by simpa [Value.ownBlock] using h
    omega
  · rw [hk] at hb
    have := Option.some.inj hb
    omega
theorem row_apart {M k b' : Nat} {v1 : Value} {W : World} (hat : v1.ownBlock = (Value.slice (some ⟨M, 0, none⟩) 0 0).ownBlock ∨ ∃ b, v1.ownBlock = some b ∧ W.heap.size ≤ b) (hk : v1.ownBlock = some k) (hM : M ≠ b') (hN : b' < W.heap.size) : k ≠ b' := by
  rcases hat with h | ⟨b, hb, hle⟩
  · rw [hk] at h
    have : k = M := by simpa [Value.ownBlock] using h
    omega
  · rw [hk] at hb
    have := Option.some.inj hb
    omega
theorem row_new3 {N k : Nat} {v1 v2 : Value} {W : World} (hat : v2.ownBlock = v1.ownBlock ∨ ∃ b, v2.ownBlock = some b ∧ W.heap.size ≤ b) (hk : v2.ownBlock = some k) (h1 : ∀ k, v1.ownBlock = some k → N ≤ k) (hN : N ≤ W.heap.size) : N ≤ k := by
  rcases hat with h | ⟨b, hb, hle⟩
  · exact h1 k (h ▸ hk)
  · rw [hk] at hb
    have := Option.some.inj hb
    omega
theorem box_kept {W w' : World} {row : Option Nat} {g : Nat} {o : Obj} (hg : W.grownBy w' row) (hne : some g ≠ row) (hb : W.heap[g]? = some o) : w'.heap[g]? = some o := (hg.block g (blk_lt hb) hne).trans hb
theorem alloc_at' (w : World) (o : Obj) : (w.alloc o).heap[w.heap.size]? = some o := by
  show (w.heap.push o)[w.heap.size]? = some o
  simp
set_option maxHeartbeats 8000000 in
set_option maxRecDepth 100000 in
theorem rwith (l : List (ByteArray × PF)) (vf vl : Value) (room next : Int) (down : Bool) (nme : ByteArray) (f : PF) (w : World) (h : Kd.R kF 75 w 0 (fun _ => True) vf l) (hf : Kd.R kP 78 w 0 (fun _ => True) vl f.loose) (hl : l.length ≤ 1000000) (hr : Rises l) :
    Calls Try.prog 56 #[.agg #[vf, .int .i64 room, .slice none 0 0, .int .i64 next, .bool down], .agg #[.string nme, .string f.sure, .bool f.there, vl]] w fun e' w' => ∃ vf', e' = .returned (.agg #[vf', .int .i64 room, .slice none 0 0, .int .i64 next, .bool down]) ∧ Kd.R kF 75 w' 0 (fun _ => True) vf' (putS l nme f) ∧ Below w.heap.size w w' := by
  obtain ⟨w1, hw1⟩ : ∃ w1, w.alloc (.cells #[vf, .int .i64 room, .slice none 0 0, .int .i64 next, .bool down] 29) = w1 := ⟨_, rfl⟩
  have HB1 := Lib.hid (show Below w.heap.size w w1 by rw [← hw1]; exact (Below.refl _ _).alloc (Nat.le_refl _) _)
  have hx1 : w1.heap[w.heap.size]? = some (.cells #[vf, .int .i64 room, .slice none 0 0, .int .i64 next, .bool down] 29 (0, 0)) := by rw [← hw1]; exact alloc_at w _
  have hs1 : w1.heap.size = w.heap.size + 1 := by rw [← hw1]; simp
  obtain ⟨w1b, hw1b⟩ : ∃ w1b, w1.alloc (.cells #[.string nme, .string f.sure, .bool f.there, vl] 75) = w1b := ⟨_, rfl⟩
  have HB1b := Lib.hid (show Below w.heap.size w w1b by rw [← hw1b]; exact HB1.out.alloc HB1.out.size _)
  have hx1b : w1b.heap[w.heap.size]? = some (.cells #[vf, .int .i64 room, .slice none 0 0, .int .i64 next, .bool down] 29 (0, 0)) := by rw [← hw1b]; exact (Below.heap_alloc w1 _ _ (blk_lt hx1)).trans hx1
  have hq1b : w1b.heap[w.heap.size + 1]? = some (.cells #[.string nme, .string f.sure, .bool f.there, vl] 75 (0, 0)) := by rw [← hw1b, ← hs1]; exact alloc_at w1 _
  have hs1b : w1b.heap.size = w.heap.size + 2 := by rw [← hw1b]; simp; omega
  obtain ⟨w2, hw2⟩ : ∃ w2, w1b.alloc (.cells #[.slice none 0 0, .int .i64 0, .slice none 0 0, .int .i64 0, .bool false] 29) = w2 := ⟨_, rfl⟩
  have HB2 := Lib.hid (show Below w.heap.size w w2 by rw [← hw2]; exact HB1b.out.alloc HB1b.out.size _)
  have HX2 := Lib.hid (show w2.heap[w.heap.size]? = some (.cells #[vf, .int .i64 room, .slice none 0 0, .int .i64 next, .bool down] 29 (0, 0)) by rw [← hw2]; exact (Below.heap_alloc w1b _ _ (blk_lt hx1b)).trans hx1b)
  have HQ2 := Lib.hid (show w2.heap[w.heap.size + 1]? = some (.cells #[.string nme, .string f.sure, .bool f.there, vl] 75 (0, 0)) by rw [← hw2]; exact (Below.heap_alloc w1b _ _ (blk_lt hq1b)).trans hq1b)
  have HY2 := Lib.hid (show w2.heap[w.heap.size + 2]? = some (.cells #[.slice none 0 0, .int .i64 0, .slice none 0 0, .int .i64 0, .bool false] 29 (0, 0)) by rw [← hw2, ← hs1b]; exact alloc_at w1b _)
  have x0 : w2.cell? ⟨w.heap.size, 0, none⟩ = some vf := cell_in HX2.out 0
  have x1 : w2.cell? ⟨w.heap.size, 1, none⟩ = some (.int .i64 room) := cell_in HX2.out 1
  have x2 : w2.cell? ⟨w.heap.size, 2, none⟩ = some (.slice none 0 0) := cell_in HX2.out 2
  have x3 : w2.cell? ⟨w.heap.size, 3, none⟩ = some (.int .i64 next) := cell_in HX2.out 3
  have x4 : w2.cell? ⟨w.heap.size, 4, none⟩ = some (.bool down) := cell_in HX2.out 4
  have q0 : w2.cell? ⟨w.heap.size + 1, 0, none⟩ = some (.string nme) := cell_in HQ2.out 0
  have HH := Lib.hid (R_below2 h HB2.out)
  have HM := Lib.hid (Kd.M_below (file_made (nme := nme) hf) HB2.out)
  obtain ⟨A, c, rfl, hlc, hRR⟩ := rows_read HH.out
  obtain ⟨A7, c7, rfl⟩ := Kd.R_slice hf
  have HFd := Lib.hid (rfind l A c (.int .i64 room) (.slice none 0 0) (.int .i64 next) (.bool down) nme w2 (C_of_R HH.out) hl)
  have HRi := Lib.hid hr
  clear hx1 h hr hRR hf hx1b hq1b
  go_enter Try.func56, Try.ntmps56
  go_wp2_with fail
  refine HFd.out.mono ?_
  rintro e' w3 ⟨rfl, hb3⟩
  have HX3 := Lib.hid ((hb3.block _ (blk_lt HX2.out)).trans HX2.out)
  have HQ3 := Lib.hid ((hb3.block _ (blk_lt HQ2.out)).trans HQ2.out)
  have HY3 := Lib.hid ((hb3.block _ (blk_lt HY2.out)).trans HY2.out)
  have HB3 := Lib.hid (HB2.out.trans (hb3.mono HB2.out.size))
  have HH3 := Lib.hid (R_below2 HH.out hb3)
  have HM3 := Lib.hid (file_old (Kd.M_below HM.out hb3))
  have y0 : w3.cell? ⟨w.heap.size, 0, none⟩ = some (.slice A l.length c) := cell_in HX3.out 0
  have q0 : w3.cell? ⟨w.heap.size + 1, 0, none⟩ = some (.string nme) := cell_in HQ3.out 0
  have q1 : w3.cell? ⟨w.heap.size + 1, 1, none⟩ = some (.string f.sure) := cell_in HQ3.out 1
  have q2 : w3.cell? ⟨w.heap.size + 1, 2, none⟩ = some (.bool f.there) := cell_in HQ3.out 2
  have q3 : w3.cell? ⟨w.heap.size + 1, 3, none⟩ = some (.slice A7 f.loose.length c7) := cell_in HQ3.out 3
  obtain ⟨bi, hbi⟩ : ∃ bi, bi = isI l nme := ⟨_, rfl⟩
  obtain ⟨n, hn⟩ : ∃ n, n = idx l nme := ⟨_, rfl⟩
  have hnl : n ≤ l.length := by rw [hn]; exact idx_le l nme
  have HI := Lib.hid (And.intro hbi hn)
  obtain ⟨A', c', he, hlc', hRR⟩ := rows_read HH3.out
  have he1 : A = A' := by injection he
  subst he1
  have HR3 := Lib.hid hRR
  rw [← hbi, ← hn]
  have p0 : (0 ≤ (n : Int)) = True := eq_true (by omega)
  have p1 : ((n : Int) ≤ (l.length : Int)) = True := eq_true (by omega)
  have p3 : ((l.length : Int) ≤ (c : Int)) = True := eq_true (by omega)
  have p5 : ((n : Int) ≤ (c : Int)) = True := eq_true (by omega)
  clear hb3 x0 x1 x2 x3 x4 HFd hbi hn he hRR
  go_upto_if 19 with fail
  obtain ⟨A0, hA0⟩ : ∃ A0, A0 = (if c = n then A else Option.map (fun x => x.add (n * 4)) A) := ⟨_, rfl⟩
  have HA0 := Lib.hid (show n < l.length → A0 = Option.map (fun x => x.add (n * 4)) A from fun h => by rw [hA0, if_neg (by omega)])
  rw [← hA0]
  clear hA0
  go_cut [7] from 20 to 24 (fun u7 wx => ∃ (A2 : Option Addr) (m2 c2 : Nat) (ys : List (ByteArray × PF)), u7 = .slice A2 m2 c2 ∧ m2 ≤ l.length ∧ Hid (ReadsRow (kF.M w3 0 (fun k => k < w3.heap.size)) 4 w3 A2 m2 ys ∧ putS l nme f = [] ++ l.take n ++ [(nme, f)] ++ ys) ∧ w3 = wx)
  case first =>
    have HP := Lib.hid (putS_split l nme f)
    cases bi with
    | false =>
      have HU := Lib.hid (And.intro (reads_drop HR3.out hnl A0 HA0.out) (show putS l nme f = [] ++ l.take n ++ [(nme, f)] ++ l.drop n by
        rw [HP.out, ← HI.out.1, ← HI.out.2, if_neg (by simp)]; simp))
      go_wp2_with fail
      go_meet
      exact ⟨A0, l.length - n, c - n, l.drop n, rfl, by omega, HU, rfl⟩
    | true =>
      have hlt : n < l.length := by rw [HI.out.2]; exact isI_lt HI.out.1.symm
      have HU := Lib.hid (show putS l nme f = [] ++ l.take n ++ [(nme, f)] ++ l.drop (n + 1) by
        rw [HP.out, ← HI.out.1, ← HI.out.2, if_pos rfl]; simp)
      have p2 : ((n : Int) + 1 ≤ (l.length : Int)) = True := eq_true (by omega)
      have p4 : (0 ≤ (n : Int) + 1) = True := eq_true (by omega)
      by_cases hc : c = n + 1
      · have HUU := Lib.hid (And.intro (reads_drop HR3.out (show n + 1 ≤ l.length by omega) A (fun h => by exfalso; omega)) HU.out)
        have e1 : (c = n + 1) = True := eq_true hc
        clear hc
        go_wp2_with fail
        go_meet
        exact ⟨_, _, _, l.drop (n + 1), rfl, by omega, HUU, rfl⟩
      · have HUU := Lib.hid (And.intro (reads_drop HR3.out (show n + 1 ≤ l.length by omega) (Option.map (fun x => x.add ((n + 1) * 4)) A) (fun h => rfl)) HU.out)
        have e1 : (c = n + 1) = False := eq_false hc
        clear hc
        go_wp2_with fail
        go_meet
        exact ⟨_, _, _, l.drop (n + 1), rfl, by omega, HUU, rfl⟩
  case rest =>
    obtain ⟨A2, m2, c2, ys, rfl, hm2, HU, hw3⟩ := hcut
    subst hw3
    have hnlt : w.heap.size < w3.heap.size := blk_lt HX3.out
    have hqlt : w.heap.size + 1 < w3.heap.size := blk_lt HQ3.out
    obtain ⟨i0, hi0, hz0, hz1, hz2⟩ := info_parts infoF
    have hln1 : ([] : List (ByteArray × PF)).length + n ≤ maxLen := by unfold maxLen; simp; omega
    have hln2 : (([] : List (ByteArray × PF)).length + n) * 64 ≤ 140737488355328 := by simp; omega
    have hln3 : ([] ++ l.take n).length + 1 ≤ maxLen := by unfold maxLen; simp; omega
    have hln4 : (([] ++ l.take n).length + 1) * 64 ≤ 140737488355328 := by simp; omega
    have hln5 : ([] ++ l.take n ++ [(nme, f)]).length + m2 ≤ maxLen := by unfold maxLen; simp; omega
    have hln6 : (([] ++ l.take n ++ [(nme, f)]).length + m2) * 64 ≤ 140737488355328 := by simp; omega
    go_wp2_with fail
    go_region_law (first
      | (guard_hyp hb6; refine step_rows kF (by rfl) _ _ _ 75 (by rfl) 0 i0 _ 64 Try.underlying26 hi0 hz0 hz1 hz2 rfl (by decide) v2 ([] ++ l.take n ++ [(nme, f)]) ys A2 m2 c2 (fun _ => True) (fun k => k < w3.heap.size) (by rfl) (by rfl) hR6 (rows_later HU.out.1 hb6) (fun k hk => ⟨trivial, fun h => by have := hown6 k h.symm; omega⟩) (fun _ _ => trivial) (Nat.zero_le _) hln5 hln6 ?_; intro v3 w7 hR7 hg7 hat7; have hb7 : Below w3.heap.size w3 w7 := pw_below_grown hb6 _ hb6.size hg7 hown6; have k2 : w7.cell? ⟨w.heap.size, 0, none⟩ = some (.slice A l.length c) := cell_in ((hb7.block _ hnlt).trans HX3.out) 0; have k3 : w7.frozen? ⟨w.heap.size, 0, none⟩ = false := free_in ((hb7.block _ hnlt).trans HX3.out) 0; rw [← HU.out.2] at hR7; obtain ⟨A9, c9, rfl⟩ := Kd.R_slice hR7)
      | (guard_hyp hbox4; refine step_rows kF (by rfl) _ _ _ 75 (by rfl) 0 i0 _ 64 Try.underlying26 hi0 hz0 hz1 hz2 rfl (by decide) v1 ([] ++ l.take n) [(nme, f)] (some ⟨w3.heap.size + 1, 0, none⟩) 1 1 (fun _ => True) (fun k => k < w3.heap.size) (by rfl) (by rfl) hR4 (one_read hbox4 (Kd.M_below HM3.out hb4)) (fun k hk => ⟨trivial, fun h => by have := hown4 k h.symm; omega⟩) (fun _ _ => trivial) (Nat.zero_le _) hln3 hln4 ?_; intro v2 w6 hR6 hg6 hat6; have hb6 : Below w3.heap.size w3 w6 := pw_below_grown hb4 _ hb4.size hg6 hown4; have hown6 : ∀ k, v2.ownBlock = some k → w3.heap.size ≤ k := fun k hk => row_new3 hat6 hk hown4 hb4.size)
      | (guard_hyp hbox4; refine step_rows kF (by rfl) _ _ _ 75 (by rfl) 0 i0 _ 64 Try.underlying26 hi0 hz0 hz1 hz2 rfl (by decide) v1 ([] ++ l.take n) [(nme, f)] (some ⟨w3.heap.size, 0, none⟩) 1 1 (fun _ => True) (fun k => k < w3.heap.size) (by rfl) (by rfl) hR4 (one_read hbox4 (Kd.M_below HM3.out hb4)) (fun k hk => ⟨trivial, fun h => by have := hown4 k h.symm; omega⟩) (fun _ _ => trivial) (Nat.zero_le _) hln3 hln4 ?_; intro v2 w6 hR6 hg6 hat6; have hb6 : Below w3.heap.size w3 w6 := pw_below_grown hb4 _ hb4.size hg6 hown4; have hown6 : ∀ k, v2.ownBlock = some k → w3.heap.size ≤ k := fun k hk => row_new3 hat6 hk hown4 hb4.size)
      | (guard_hyp hb4; refine step_rows kF (by rfl) _ _ _ 75 (by rfl) 0 i0 _ 64 Try.underlying26 hi0 hz0 hz1 hz2 rfl (by decide) v1 ([] ++ l.take n) [(nme, f)] (some ⟨w4.heap.size, 0, none⟩) 1 1 (fun _ => True) (fun k => k < w3.heap.size) (by rfl) (by rfl) (Kd.R_alloc hR4 _) (one_read (alloc_at' w4 _) (Kd.M_below HM3.out (hb4.alloc hb4.size _))) (fun k hk => ⟨trivial, fun h => by have := hown4 k h.symm; omega⟩) (fun _ _ => trivial) (Nat.zero_le _) hln3 hln4 ?_; intro v2 w6 hR6 hg6 hat6; have hb6 : Below w3.heap.size w3 w6 := pw_below_grown (hb4.alloc hb4.size _) _ (by simp; have := hb4.size; omega) hg6 hown4; have hown6 : ∀ k, v2.ownBlock = some k → w3.heap.size ≤ k := fun k hk => row_new3 hat6 hk hown4 (by simp; have := hb4.size; omega))
      | (refine step_rows kF (by rfl) _ _ _ 75 (by rfl) 0 i0 _ 64 Try.underlying26 hi0 hz0 hz1 hz2 rfl (by decide) (.slice (some ⟨w3.heap.size, 0, none⟩) 0 0) [] (l.take n) A n c (fun _ => True) (fun k => k < w3.heap.size) (by rfl) (by rfl) (Kd.R_drew (rows_nil w3 (fun _ => True) trivial)) (reads_take (rows_later HR3.out ((Below.refl _ w3).alloc (Nat.le_refl _) _).drew) hnl) (fun k hk => ⟨trivial, fun h => by have := own_is h; omega⟩) (fun _ _ => trivial) (Nat.zero_le _) hln1 hln2 ?_; intro v1 w4 hR4 hg4 hat4; have hb4 : Below w3.heap.size w3 w4 := pw_below_grown ((Below.refl _ w3).alloc (Nat.le_refl _) _).drew _ (by simp; try omega) hg4 (fun k hk => by have := own_is hk.symm; omega); have hown4 : ∀ k, v1.ownBlock = some k → w3.heap.size ≤ k := fun k hk => row_new2 hat4 hk (by omega) (by simp; try omega); have q40 : w4.cell? ⟨w.heap.size + 1, 0, none⟩ = some (.string nme) := cell_in ((hb4.block _ hqlt).trans HQ3.out) 0; have q41 : w4.cell? ⟨w.heap.size + 1, 1, none⟩ = some (.string f.sure) := cell_in ((hb4.block _ hqlt).trans HQ3.out) 1; have q42 : w4.cell? ⟨w.heap.size + 1, 2, none⟩ = some (.bool f.there) := cell_in ((hb4.block _ hqlt).trans HQ3.out) 2; have q43 : w4.cell? ⟨w.heap.size + 1, 3, none⟩ = some (.slice A7 f.loose.length c7) := cell_in ((hb4.block _ hqlt).trans HQ3.out) 3)
      | (refine step_rows kF (by rfl) _ _ _ 75 (by rfl) 0 i0 _ 64 Try.underlying26 hi0 hz0 hz1 hz2 rfl (by decide) (.slice (some ⟨w3.heap.size, 0, none⟩) 0 0) [] (l.take n) A n c (fun _ => True) (fun k => k < w3.heap.size) (by rfl) (by rfl) (Kd.R_drew (Kd.R_alloc (rows_nil w3 (fun _ => True) trivial) _)) (reads_take (rows_later HR3.out (((Below.refl _ w3).alloc (Nat.le_refl _) _).alloc (by simp) _).drew) hnl) (fun k hk => ⟨trivial, fun h => by have := own_is h; omega⟩) (fun _ _ => trivial) (Nat.zero_le _) hln1 hln2 ?_; intro v1 w4 hR4 hg4 hat4; have hb4 : Below w3.heap.size w3 w4 := pw_below_grown (((Below.refl _ w3).alloc (Nat.le_refl _) _).alloc (by simp) _).drew _ (by simp; try omega) hg4 (fun k hk => by have := own_is hk.symm; omega); have hown4 : ∀ k, v1.ownBlock = some k → w3.heap.size ≤ k := fun k hk => row_new2 hat4 hk (by omega) (by simp; try omega); have hbox4 : w4.heap[w3.heap.size + 1]? = some (.cells #[.string nme, .string f.sure, .bool f.there, .slice A7 f.loose.length c7] 75 (0, 0)) := box_kept hg4 (by simp [Value.ownBlock]) (heap_alloc2_new w3 _ _); have hnb4 : ∀ k, v1.ownBlock = some k → k ≠ w3.heap.size + 1 := fun k hk => row_apart hat4 hk (by omega) (by simp; try omega); have q40 : w4.cell? ⟨w.heap.size + 1, 0, none⟩ = some (.string nme) := cell_in ((hb4.block _ hqlt).trans HQ3.out) 0; have q41 : w4.cell? ⟨w.heap.size + 1, 1, none⟩ = some (.string f.sure) := cell_in ((hb4.block _ hqlt).trans HQ3.out) 1; have q42 : w4.cell? ⟨w.heap.size + 1, 2, none⟩ = some (.bool f.there) := cell_in ((hb4.block _ hqlt).trans HQ3.out) 2; have q43 : w4.cell? ⟨w.heap.size + 1, 3, none⟩ = some (.slice A7 f.loose.length c7) := cell_in ((hb4.block _ hqlt).trans HQ3.out) 3)
      | (refine step_rows kF (by rfl) _ _ _ 75 (by rfl) 0 i0 _ 64 Try.underlying26 hi0 hz0 hz1 hz2 rfl (by decide) (.slice (some ⟨w3.heap.size + 1, 0, none⟩) 0 0) [] (l.take n) A n c (fun _ => True) (fun k => k < w3.heap.size) (by rfl) (by rfl) (Kd.R_drew (rows_nil' (w3.alloc _) (ok := fun _ => True) (by simp) trivial)) (reads_take (rows_later HR3.out (((Below.refl _ w3).alloc (Nat.le_refl _) _).alloc (by simp) _).drew) hnl) (fun k hk => ⟨trivial, fun h => by have := own_is h; omega⟩) (fun _ _ => trivial) (Nat.zero_le _) hln1 hln2 ?_; intro v1 w4 hR4 hg4 hat4; have hb4 : Below w3.heap.size w3 w4 := pw_below_grown (((Below.refl _ w3).alloc (Nat.le_refl _) _).alloc (by simp) _).drew _ (by simp; try omega) hg4 (fun k hk => by have := own_is hk.symm; omega); have hown4 : ∀ k, v1.ownBlock = some k → w3.heap.size ≤ k := fun k hk => row_new2 hat4 hk (by omega) (by simp; try omega); have hbox4 : w4.heap[w3.heap.size]? = some (.cells #[.string nme, .string f.sure, .bool f.there, .slice A7 f.loose.length c7] 75 (0, 0)) := box_kept hg4 (by simp [Value.ownBlock]) ((Below.heap_alloc _ _ _ (by simp)).trans (alloc_at w3 _)); have hnb4 : ∀ k, v1.ownBlock = some k → k ≠ w3.heap.size := fun k hk => row_apart hat4 hk (by omega) (by simp; try omega); have q40 : w4.cell? ⟨w.heap.size + 1, 0, none⟩ = some (.string nme) := cell_in ((hb4.block _ hqlt).trans HQ3.out) 0; have q41 : w4.cell? ⟨w.heap.size + 1, 1, none⟩ = some (.string f.sure) := cell_in ((hb4.block _ hqlt).trans HQ3.out) 1; have q42 : w4.cell? ⟨w.heap.size + 1, 2, none⟩ = some (.bool f.there) := cell_in ((hb4.block _ hqlt).trans HQ3.out) 2; have q43 : w4.cell? ⟨w.heap.size + 1, 3, none⟩ = some (.slice A7 f.loose.length c7) := cell_in ((hb4.block _ hqlt).trans HQ3.out) 3))
    all_goals
      have HF := Lib.hid (show Kd.R kF 75 (w7.setCell ⟨w.heap.size, 0, none⟩ (.slice A9 (putS l nme f).length c9)) 0 (fun _ => True) (.slice A9 (putS l nme f).length c9) (putS l nme f) from Kd.R_set hR7 ((hb7.block _ hnlt).trans HX3.out) (by decide) 0 _)
      have HX5 := Lib.hid (show (w7.setCell ⟨w.heap.size, 0, none⟩ (.slice A9 (putS l nme f).length c9)).heap[w.heap.size]? = some (.cells #[.slice A9 (putS l nme f).length c9, .int .i64 room, .slice none 0 0, .int .i64 next, .bool down] 29 (0, 0)) from blk_set ((hb7.block _ hnlt).trans HX3.out) 0 _)
      have HY5 := Lib.hid (show (w7.setCell ⟨w.heap.size, 0, none⟩ (.slice A9 (putS l nme f).length c9)).heap[w.heap.size + 2]? = some (.cells #[.slice none 0 0, .int .i64 0, .slice none 0 0, .int .i64 0, .bool false] 29 (0, 0)) from (Below.heap_setCell _ _ _ _ (by show w.heap.size + 2 ≠ w.heap.size; omega)).trans ((hb7.block _ (blk_lt HY3.out)).trans HY3.out))
      have HB5 := Lib.hid (show Below w.heap.size w (w7.setCell ⟨w.heap.size, 0, none⟩ (.slice A9 (putS l nme f).length c9)) from Below.setCell (HB3.out.trans (hb7.mono HB3.out.size)) (Nat.le_refl _) _)
      generalize w7.setCell ⟨w.heap.size, 0, none⟩ (.slice A9 (putS l nme f).length c9) = w8 at HF HX5 HY5 HB5 ⊢
      have x0 : w8.cell? ⟨w.heap.size, 0, none⟩ = some (.slice A9 (putS l nme f).length c9) := cell_in HX5.out 0
      have x1 : w8.cell? ⟨w.heap.size, 1, none⟩ = some (.int .i64 room) := cell_in HX5.out 1
      have x2 : w8.cell? ⟨w.heap.size, 2, none⟩ = some (.slice none 0 0) := cell_in HX5.out 2
      have x3 : w8.cell? ⟨w.heap.size, 3, none⟩ = some (.int .i64 next) := cell_in HX5.out 3
      have x4 : w8.cell? ⟨w.heap.size, 4, none⟩ = some (.bool down) := cell_in HX5.out 4
      have z0 : w8.cell? ⟨w.heap.size + 2, 0, none⟩ = some (.slice none 0 0) := cell_in HY5.out 0
      have z1 : w8.cell? ⟨w.heap.size + 2, 1, none⟩ = some (.int .i64 0) := cell_in HY5.out 1
      have z2 : w8.cell? ⟨w.heap.size + 2, 2, none⟩ = some (.slice none 0 0) := cell_in HY5.out 2
      have z3 : w8.cell? ⟨w.heap.size + 2, 3, none⟩ = some (.int .i64 0) := cell_in HY5.out 3
      have z4 : w8.cell? ⟨w.heap.size + 2, 4, none⟩ = some (.bool false) := cell_in HY5.out 4
      have fz2 := free_in HY5.out
      clear hR4 hg4 hat4 hb4 hown4 hR6 hg6 hat6 hb6 hown6 hR7 hg7 hat7 hb7 k2 k3 y0 q0 q1 q2 q3 q40 q41 q42 q43
      go_wp2_with fail
      refine bodyPost_ret (results_cell_row rfl _ _ (w.heap.size + 2) 29 #[.slice A9 (putS l nme f).length c9, .int .i64 room, .slice none 0 0, .int .i64 next, .bool down] (0, 0) _ rfl (blk_set (blk_set (blk_set (blk_set (blk_set HY5.out 0 _) 1 _) 2 _) 3 _) 4 _) Try.underlying29 rfl (by kernel_rfl)) rfl ?_
      refine ⟨_, rfl, ?_, ?_⟩
      · exact R_sets HF.out HY5.out (by decide) [(0, _), (1, _), (2, _), (3, _), (4, _)]
      · exact below_sets HB5.out (by omega) [(0, _), (1, _), (2, _), (3, _), (4, _)]
end Go.Proofs.YtcongfiojbajeaaK
