/- The document's disk: a change counts; Put: the walks. Conditions: the state is small; no falls are laid. -/
import Derived.Test.YtcongfiojbajeaaDiskRefC
import Derived.Deep.RegionHeld3
namespace Go.Proofs.YtcongfiojbajeaaK
open Go Go.RowKit Go.Maps Go.Proofs.YtcongfiojbajeaaM Go.Proofs.YtcongfiojbajeaaW.PrintWords Go.Proofs.YtcongfiojbajeaaN
set_option linter.unusedVariables false
set_option linter.unusedSimpArgs false
/-- A disk of the document's in a block of its own; a block for one. -/
abbrev rd (vf : Value) (room next : Int) (down : Bool) : Obj := .cells #[vf, .int .i64 room, .slice none 0 0, .int .i64 next, .bool down] 29
abbrev rz : Obj := .cells #[.slice none 0 0, .int .i64 0, .slice none 0 0, .int .i64 0, .bool false] 29
set_option maxHeartbeats 2000000 in
set_option maxRecDepth 100000 in
theorem rstrike (A : Option Addr) (n c : Nat) (room next : Int) (down : Bool) (w : World) (hn : 0 ≤ next ∧ next ≤ 1000000) :
    Calls Try.prog 55 #[.agg #[.slice A n c, .int .i64 room, .slice none 0 0, .int .i64 next, .bool down]] w fun e' w' => e' = .returned (.tuple #[.agg #[.slice A n c, .int .i64 room, .slice none 0 0, .int .i64 (next + 1), .bool down], .int .i64 0]) ∧ Below w.heap.size w w' := by
  obtain ⟨w1, hw1⟩ : ∃ w1, w.alloc (rd (.slice A n c) room next down) = w1 := ⟨_, rfl⟩
  have HB1 := Lib.hid (show Below w.heap.size w w1 by rw [← hw1]; exact (Below.refl _ _).alloc (Nat.le_refl _) _)
  have hx1 : w1.heap[w.heap.size]? = some (rd (.slice A n c) room next down) := by rw [← hw1]; exact alloc_at w _
  have hs1 : w1.heap.size = w.heap.size + 1 := by rw [← hw1]; simp
  obtain ⟨w2, hw2⟩ : ∃ w2, w1.alloc rz = w2 := ⟨_, rfl⟩
  have HB2 := Lib.hid (show Below w.heap.size w w2 by rw [← hw2]; exact HB1.out.alloc HB1.out.size _)
  have HX2 := Lib.hid (show w2.heap[w.heap.size]? = some (rd (.slice A n c) room next down) by rw [← hw2]; exact (Below.heap_alloc w1 _ _ (blk_lt hx1)).trans hx1)
  have HY2 := Lib.hid (show w2.heap[w.heap.size + 1]? = some rz by rw [← hw2, ← hs1]; exact alloc_at w1 _)
  have x0 : w2.cell? ⟨w.heap.size, 0, none⟩ = some (.slice A n c) := cell_in HX2.out 0
  have x1 : w2.cell? ⟨w.heap.size, 1, none⟩ = some (.int .i64 room) := cell_in HX2.out 1
  have x2 : w2.cell? ⟨w.heap.size, 2, none⟩ = some (.slice none 0 0) := cell_in HX2.out 2
  have x3 : w2.cell? ⟨w.heap.size, 3, none⟩ = some (.int .i64 next) := cell_in HX2.out 3
  have x4 : w2.cell? ⟨w.heap.size, 4, none⟩ = some (.bool down) := cell_in HX2.out 4
  have z0 : w2.cell? ⟨w.heap.size + 1, 0, none⟩ = some (.slice none 0 0) := cell_in HY2.out 0
  have z1 : w2.cell? ⟨w.heap.size + 1, 1, none⟩ = some (.int .i64 0) := cell_in HY2.out 1
  have z2 : w2.cell? ⟨w.heap.size + 1, 2, none⟩ = some (.slice none 0 0) := cell_in HY2.out 2
  have z3 : w2.cell? ⟨w.heap.size + 1, 3, none⟩ = some (.int .i64 0) := cell_in HY2.out 3
  have z4 : w2.cell? ⟨w.heap.size + 1, 4, none⟩ = some (.bool false) := cell_in HY2.out 4
  have fz := free_in HX2.out
  have fz2 := free_in HY2.out
  have hn0 := hn.1
  have hn1 := hn.2
  clear hx1 hn
  go_enter Try.func55, Try.ntmps55
  go_wp2_with fail
  go_loopw [4] (fun i wr => i = .int .i64 0 ∧ wr = w2) (fun i _ => 0)
  case atStart => exact ⟨rfl, rfl⟩
  case round =>
    obtain ⟨rfl, hwr⟩ := hrel
    subst hwr
    go_wp2_with fail
    have HY3 := Lib.hid (show (wr.setCell ⟨w.heap.size, 3, none⟩ (.int .i64 (next + 1))).heap[w.heap.size + 1]? = some rz from (Below.heap_setCell _ _ _ _ (by show w.heap.size + 1 ≠ w.heap.size; omega)).trans HY2.out)
    refine bodyPost_ret (results_ct rfl _ _ (w.heap.size + 1) 29 #[.slice A n c, .int .i64 room, .slice none 0 0, .int .i64 (next + 1), .bool down] (0, 0) _ rfl (blk_set (blk_set (blk_set (blk_set (blk_set HY3.out 0 _) 1 _) 2 _) 3 _) 4 _) Try.underlying29 rfl (by kernel_rfl)) rfl ?_
    exact ⟨rfl, below_sets (Below.setCell HB2.out (Nat.le_refl _) _) (by omega) [(0, _), (1, _), (2, _), (3, _), (4, _)]⟩
/-- The cells of a disk of the document's that lies at g. -/
theorem rd_cells {w : World} {g : Nat} {vf : Value} {room next : Int} {down : Bool} (h : w.heap[g]? = some (rd vf room next down)) : w.cell? ⟨g, 0, none⟩ = some vf ∧ w.cell? ⟨g, 1, none⟩ = some (.int .i64 room) ∧ w.cell? ⟨g, 2, none⟩ = some (.slice none 0 0) ∧ w.cell? ⟨g, 3, none⟩ = some (.int .i64 next) ∧ w.cell? ⟨g, 4, none⟩ = some (.bool down) :=
  ⟨cell_in h 0, cell_in h 1, cell_in h 2, cell_in h 3, cell_in h 4⟩
abbrev rz4 (nme : ByteArray) : Obj := .cells #[.string nme, .string ⟨#[]⟩, .bool false, .slice none 0 0] 75
/-- What Put has of the file: an old one's cells, or a new one's. -/
structure RFile (w0 wx : World) (l : List (ByteArray × PF)) (nme : ByteArray) (f : PF) (fb : Nat) (A : Option Addr) (c : Nat) : Prop where
  at_ : wx.heap[fb]? = some (.cells #[.string nme, .string f.sure, .bool f.there, .slice A f.loose.length c] 75 (0, 0))
  read : Kd.C kP w0 A f.loose.length f.loose
  is : f = (get l nme).getD ⟨ByteArray.empty, false, []⟩
  new : w0.heap.size < fb
theorem held5 {w0 W W' : World} {a b c d e : Addr} {va vb vc vd ve : Value} (hb : Below W.heap.size W W') (x : W.cell? a = some va ∧ W.cell? b = some vb ∧ W.cell? c = some vc ∧ W.cell? d = some vd ∧ W.cell? e = some ve) (h : Below w0.heap.size w0 W) : (W'.cell? a = some va ∧ W'.cell? b = some vb ∧ W'.cell? c = some vc ∧ W'.cell? d = some vd ∧ W'.cell? e = some ve) ∧ Below w0.heap.size w0 W' :=
  ⟨⟨(held_below hb x.1 h).1, (held_below hb x.2.1 h).1, (held_below hb x.2.2.1 h).1, (held_below hb x.2.2.2.1 h).1, (held_below hb x.2.2.2.2 h).1⟩, h.trans (hb.mono h.size)⟩
theorem infoPut : (Try.prog.info? 78).map (fun i => (i.zero, i.size, i.bytes)) = some (some (.agg #[.string ByteArray.empty, .bool false]), 2, 24) := by kernel_rfl
theorem sets_other (w : World) (g k : Nat) (l : List (Nat × Value)) (h : k ≠ g) : (setsOf w g l).heap[k]? = w.heap[k]? := by
  induction l generalizing w with
  | nil => rfl
  | cons p l ih => exact (ih _).trans (Below.heap_setCell _ _ _ _ h)
theorem puts_read {W : World} {A : Option Addr} {n : Nat} {xs : List (ByteArray × Bool)} (h : Kd.C kP W A n xs) : ReadsRow (kP.M W 0 (fun _ => False)) kP.sz W A n xs := h.imp_ (Below.refl _ _) (fun _ _ hp => hp)
theorem puts_nil {w : World} {N : Nat} (hN : w.heap.size = N) : Kd.R kP 78 (w.alloc (.cells #[] 78)) 0 (fun _ => True) (.slice (some ⟨N, 0, none⟩) 0 0) [] := by
  subst hN
  exact ⟨fun _ _ => trivial, OwnRow.lit w 0 (Reps.none _ _) (Nat.zero_le _) (by simp)⟩
theorem puts_one {W : World} {g : Nat} {p : ByteArray × Bool} (hb : W.heap[g]? = some (.cells #[.string p.1, .bool p.2] 78 (0, 0))) : ReadsRow (kP.M W 0 (fun _ => False)) kP.sz W (some ⟨g, 0, none⟩) 1 [p] := by
  refine ⟨rfl, by omega, fun _ => ⟨_, rfl, fun j q hj => ?_⟩⟩
  cases j with
  | succ j => cases hj
  | zero =>
    obtain rfl : p = q := by simpa using hj
    refine ⟨[.string p.1, .bool p.2], rfl, ⟨[.string p.1], [.bool p.2], rfl, rfl, rfl⟩, fun i u hu => ?_⟩
    rw [Nat.zero_mul, Nat.zero_add]
    exact World.news_of_block hb i u hu
set_option maxHeartbeats 8000000 in
set_option maxRecDepth 100000 in
theorem rput (l : List (ByteArray × PF)) (vf : Value) (room next : Int) (nme : ByteArray) (p : ByteArray × Bool) (w : World) (h : Kd.R kF 75 w 0 (fun _ => True) vf l) (hl : l.length ≤ 1000000) (hr : Rises l) (hs : ∀ p ∈ l, p.2.vol ≤ 1000000 ∧ p.2.loose.length ≤ 1000000) (hsum : (l.map fun p => p.2.now.size).sum ≤ 1000000) (hn : 0 ≤ next ∧ next ≤ 1000000)
    (hroom : room ≤ 9223372036854775807) (hnme : nme.size ≤ 9223372036854775807) (hnm : nm nme = true) (hp : p.1.size ≤ 1000000) :
    Calls Try.prog 40 #[.agg #[vf, .int .i64 room, .slice none 0 0, .int .i64 next, .bool false], .string nme, .agg #[.string p.1, .bool p.2]] w fun e' w' =>
      (full room ((l.map fun p => p.2.now.size).sum) ((get l nme).getD ⟨ByteArray.empty, false, []⟩).now.size (onP ((get l nme).getD ⟨ByteArray.empty, false, []⟩).now p).size → e' = .returned (.tuple #[.agg #[vf, .int .i64 room, .slice none 0 0, .int .i64 next, .bool false], .int .i64 61]) ∧ Below w.heap.size w w') ∧
      (¬ full room ((l.map fun p => p.2.now.size).sum) ((get l nme).getD ⟨ByteArray.empty, false, []⟩).now.size (onP ((get l nme).getD ⟨ByteArray.empty, false, []⟩).now p).size → ∃ vf', e' = .returned (.tuple #[.agg #[vf', .int .i64 room, .slice none 0 0, .int .i64 (next + 1), .bool false], .int .i64 0]) ∧ Kd.R kF 75 w' 0 (fun _ => True) vf' (putS l nme (((get l nme).getD ⟨ByteArray.empty, false, []⟩).put p)) ∧ Below w.heap.size w w') := by
  obtain ⟨w1, hw1⟩ : ∃ w1, w.alloc (rd vf room next false) = w1 := ⟨_, rfl⟩
  have HB1 := Lib.hid (show Below w.heap.size w w1 by rw [← hw1]; exact (Below.refl _ _).alloc (Nat.le_refl _) _)
  have hx1 : w1.heap[w.heap.size]? = some (rd vf room next false) := by rw [← hw1]; exact alloc_at w _
  have hs1 : w1.heap.size = w.heap.size + 1 := by rw [← hw1]; simp
  obtain ⟨w1b, hw1b⟩ : ∃ w1b, w1.alloc (.cells #[.string p.1, .bool p.2] 78) = w1b := ⟨_, rfl⟩
  have HB1b := Lib.hid (show Below w.heap.size w w1b by rw [← hw1b]; exact HB1.out.alloc HB1.out.size _)
  have hx1b : w1b.heap[w.heap.size]? = some (rd vf room next false) := by rw [← hw1b]; exact (Below.heap_alloc w1 _ _ (blk_lt hx1)).trans hx1
  have hq1b : w1b.heap[w.heap.size + 1]? = some (.cells #[.string p.1, .bool p.2] 78 (0, 0)) := by rw [← hw1b, ← hs1]; exact alloc_at w1 _
  have hs1b : w1b.heap.size = w.heap.size + 2 := by rw [← hw1b]; simp; omega
  obtain ⟨w2, hw2⟩ : ∃ w2, w1b.alloc rz = w2 := ⟨_, rfl⟩
  have HB2 := Lib.hid (show Below w.heap.size w w2 by rw [← hw2]; exact HB1b.out.alloc HB1b.out.size _)
  have HX2 := Lib.hid (show w2.heap[w.heap.size]? = some (rd vf room next false) by rw [← hw2]; exact (Below.heap_alloc w1b _ _ (blk_lt hx1b)).trans hx1b)
  have HQ2 := Lib.hid (show w2.heap[w.heap.size + 1]? = some (.cells #[.string p.1, .bool p.2] 78 (0, 0)) by rw [← hw2]; exact (Below.heap_alloc w1b _ _ (blk_lt hq1b)).trans hq1b)
  have HY2 := Lib.hid (show w2.heap[w.heap.size + 2]? = some rz by rw [← hw2, ← hs1b]; exact alloc_at w1b _)
  obtain ⟨x0, x1, x2, x3, x4⟩ := rd_cells HX2.out
  have HN := Lib.hid (ref_any nme hnme w2)
  rw [hnm] at HN
  have HH := Lib.hid (R_below2 h HB2.out)
  obtain ⟨A, c, rfl, hlc, hRR⟩ := rows_read HH.out
  have HCw := Lib.hid (C_of_R h)
  have Hh := Lib.hid h
  have HFd := Lib.hid (rfind l A c (.int .i64 room) (.slice none 0 0) (.int .i64 next) (.bool false) nme w2 (C_of_R HH.out) hl)
  have HRi := Lib.hid hr
  have HS := Lib.hid hs
  obtain ⟨f, hf⟩ : ∃ f, f = (get l nme).getD ⟨ByteArray.empty, false, []⟩ := ⟨_, rfl⟩
  rw [← hf]
  have HF := Lib.hid hf
  obtain ⟨U, hU⟩ : ∃ U, U = (l.map fun p => p.2.now.size).sum := ⟨_, rfl⟩
  rw [← hU] at hsum ⊢
  have HU := Lib.hid hU
  have hn0 := hn.1
  have hn1 := hn.2
  clear hx1 h hr hRR hx1b hq1b hs hf hU hn
  go_enter Try.func40, Try.ntmps40
  go_wp2_with fail
  refine HN.out.mono ?_
  rintro e' w3 ⟨rfl, hw3⟩
  subst hw3
  go_wp2_with fail
  refine HFd.out.mono ?_
  rintro e' w3 ⟨rfl, hb3⟩
  have HX3 := Lib.hid ((hb3.block _ (blk_lt HX2.out)).trans HX2.out)
  have HQ3 := Lib.hid ((hb3.block _ (blk_lt HQ2.out)).trans HQ2.out)
  have HY3 := Lib.hid ((hb3.block _ (blk_lt HY2.out)).trans HY2.out)
  have HB3 := Lib.hid (HB2.out.trans (hb3.mono HB2.out.size))
  have HH3 := Lib.hid (R_below2 HH.out hb3)
  clear x0 x1 x2 x3 x4 HFd HN
  obtain ⟨x0, x1, x2, x3, x4⟩ := rd_cells HX3.out
  obtain ⟨bi, hbi⟩ : ∃ bi, bi = isI l nme := ⟨_, rfl⟩
  obtain ⟨n, hnx⟩ : ∃ n, n = idx l nme := ⟨_, rfl⟩
  have HI := Lib.hid (And.intro hbi hnx)
  rw [← hbi, ← hnx]
  have hs3 : w.heap.size + 2 < w3.heap.size := blk_lt HY3.out
  clear hb3 hbi hnx
  go_upto_if 28 with fail
  obtain ⟨w4, hw4⟩ : ∃ w4, w3.alloc (.cells #[.string nme, .string ⟨#[]⟩, .bool false, .slice none 0 0] 75) = w4 := ⟨_, rfl⟩
  rw [hw4]
  have hb4 : Below w3.heap.size w3 w4 := by rw [← hw4]; exact (Below.refl _ _).alloc (Nat.le_refl _) _
  have hf4 : w4.heap[w3.heap.size]? = some (rz4 nme) := by rw [← hw4]; exact alloc_at w3 _
  have HB4 := Lib.hid hb4
  have HF4 := Lib.hid hf4
  have x40 : w4.cell? ⟨w.heap.size, 0, none⟩ = some (.slice A l.length c) := cell_in ((hb4.block _ (blk_lt HX3.out)).trans HX3.out) 0
  have HB34 := Lib.hid (HB3.out.trans (hb4.mono HB3.out.size))
  have fz4 := free_in hf4
  have g0 : w4.cell? ⟨w3.heap.size, 0, none⟩ = some (.string nme) := cell_in hf4 0
  have g1 : w4.cell? ⟨w3.heap.size, 1, none⟩ = some (.string ⟨#[]⟩) := cell_in hf4 1
  have g2 : w4.cell? ⟨w3.heap.size, 2, none⟩ = some (.bool false) := cell_in hf4 2
  have g3 : w4.cell? ⟨w3.heap.size, 3, none⟩ = some (.slice none 0 0) := cell_in hf4 3
  have hw3lt : w.heap.size < w3.heap.size := by omega
  clear hw4 hb4 hf4
  go_cut [] from 29 to 33 (fun wx => ∃ (A2 : Option Addr) (c2 : Nat), Hid (RFile w wx l nme f w3.heap.size A2 c2) ∧ Hid (Below w3.heap.size w3 wx))
  case first =>
    cases bi with
    | false =>
      have hg := (isI_get HRi.out nme).2 HI.out.1.symm
      have HZ := Lib.hid (show RFile w w4 l nme f w3.heap.size none 0 from by
        have hf0 : f = ⟨ByteArray.empty, false, []⟩ := by rw [HF.out, hg]; rfl
        refine ⟨?_, ?_, HF.out, hw3lt⟩
        · rw [hf0]; exact HF4.out
        · rw [hf0]; exact ⟨rfl, Nat.zero_le _, fun h => absurd h (Nat.lt_irrefl _)⟩)
      clear hg
      go_wp2_with fail
      go_meet
      exact ⟨none, 0, HZ, HB4⟩
    | true =>
      obtain ⟨hlt, f', hat, hgt⟩ := (isI_get HRi.out nme).1 HI.out.1.symm
      have hff : f = f' := by rw [HF.out, hgt]; rfl
      have hlt' : n < l.length := by rw [HI.out.2]; exact hlt
      have hat' : l[n] = (nme, f) := by rw [hff, ← hat]; congr 1; exact HI.out.2
      obtain ⟨ad, A2, c2, rfl, ⟨v0, v1, v2, v3⟩, hle, hC⟩ := agg_read HCw.out n hlt' hlt'
      rw [hat'] at v0 v1 v2 v3 hle hC
      simp only at v0 v1 v2 v3 hle hC
      have y0 := (held_below HB34.out v0 (Below.refl _ _)).1
      have y1 := (held_below HB34.out v1 (Below.refl _ _)).1
      have y2 := (held_below HB34.out v2 (Below.refl _ _)).1
      have y3 := (held_below HB34.out v3 (Below.refl _ _)).1
      have p0 : (0 ≤ (n : Int)) = True := eq_true (by omega)
      have p1 : ((n : Int) < (l.length : Int)) = True := eq_true (by omega)
      have HRd := Lib.hid hC
      clear hlt hat hgt hff hat' hC hle v0 v1 v2 v3
      go_wp2_with fail
      go_meet
      have HBs := below_sets HB4.out (Nat.le_refl _) [(0, .string nme), (1, .string f.sure), (2, .bool f.there), (3, .slice A2 f.loose.length c2)]
      exact ⟨A2, c2, ⟨blk_set (blk_set (blk_set (blk_set HF4.out 0 _) 1 _) 2 _) 3 _, HRd.out, HF.out, hw3lt⟩, HBs⟩
  case rest =>
    obtain ⟨A2, c2, HR4, HBc⟩ := hcut
    have HXc := Lib.hid ((HBc.out.block _ (blk_lt HX3.out)).trans HX3.out)
    have HQc := Lib.hid ((HBc.out.block _ (blk_lt HQ3.out)).trans HQ3.out)
    have q0 : wc.cell? ⟨w.heap.size + 1, 0, none⟩ = some (.string p.1) := cell_in HQc.out 0
    have q1 : wc.cell? ⟨w.heap.size + 1, 1, none⟩ = some (.bool p.2) := cell_in HQc.out 1
    have g0 : wc.cell? ⟨w3.heap.size, 0, none⟩ = some (.string nme) := cell_in HR4.out.at_ 0
    have g1 : wc.cell? ⟨w3.heap.size, 1, none⟩ = some (.string f.sure) := cell_in HR4.out.at_ 1
    have g2 : wc.cell? ⟨w3.heap.size, 2, none⟩ = some (.bool f.there) := cell_in HR4.out.at_ 2
    have g3 : wc.cell? ⟨w3.heap.size, 3, none⟩ = some (.slice A2 f.loose.length c2) := cell_in HR4.out.at_ 3
    obtain ⟨hve, hle⟩ : f.vol ≤ 1000000 ∧ f.loose.length ≤ 1000000 := by
      rw [HF.out]
      cases hg : get l nme with
      | none => exact ⟨Nat.zero_le _, Nat.zero_le _⟩
      | some u => exact HS.out _ (get_mem hg)
    have HBy := Lib.hid (rbytes nme f A2 c2 wc (Kd.C_below HR4.out.read (HB3.out.trans (HBc.out.mono HB3.out.size))) hve hle)
    have hn0' : f.now.size ≤ 1000000 := Nat.le_trans f.now_size hve
    have hn1' : (onP f.now p).size ≤ 2000000 := by have := onP_size f.now p; omega
    have HL := Lib.hid hle
    clear x40 fz4 hve hle
    go_upto_if 38 with fail
    go_cut [11] from 39 to 43 (fun u11 wx => u11 = .int .i64 (((onP f.now p).size : Int) - (f.now.size : Int)) ∧ Hid (Below wc.heap.size wc wx))
    case first =>
      obtain ⟨t, b⟩ := p
      cases b with
      | true =>
        have HO := Lib.hid (show (onP f.now (t, true)).size = t.size from rfl)
        have ht : t.size ≤ 1000000 := hp
        go_wp2_with fail
        refine HBy.out.mono ?_
        rintro e' w5 ⟨rfl, hb5⟩
        have HB5 := Lib.hid hb5
        clear hb5
        go_wp2_with fail
        go_meet
        exact ⟨by rw [HO.out], HB5⟩
      | false =>
        have HO := Lib.hid (show ((onP f.now (t, false)).size : Int) - (f.now.size : Int) = t.size from by
          show ((f.now ++ t).size : Int) - _ = _
          rw [ByteArray.size_append]; omega)
        have HB5 := Lib.hid (Below.refl wc.heap.size wc)
        go_wp2_with fail
        go_meet
        exact ⟨by rw [HO.out], HB5⟩
    case rest =>
      obtain ⟨rfl, HB5⟩ := hcut
      have HBd := Lib.hid (HBc.out.trans (HB5.out.mono HBc.out.size))
      have HX5 := Lib.hid ((HBd.out.block _ (blk_lt HX3.out)).trans HX3.out)
      have HRd := Lib.hid (show RFile w wc l nme f w3.heap.size A2 c2 from ⟨(HB5.out.block _ (blk_lt HR4.out.at_)).trans HR4.out.at_, HR4.out.read, HR4.out.is, HR4.out.new⟩)
      have HCd := Lib.hid (C_of_R (R_below2 HH3.out HBd.out))
      clear x0 x1 x2 x3 x4 g0 g1 g2 g3 q0 q1 HBy
      obtain ⟨x0, x1, x2, x3, x4⟩ := rd_cells HX5.out
      go_upto_region 12 with fail
      go_cut [59] from 44 to 59 (fun u59 wx => u59 = .bool (decide (full room U f.now.size (onP f.now p).size)) ∧ Hid (Below wc.heap.size wc wx))
      case first =>
        have HBw := Lib.hid (show Below wc.heap.size wc wc.drew from (Below.refl _ _).drew)
        by_cases c1 : f.now.size < (onP f.now p).size
        · have d1 : decide (f.now.size < (onP f.now p).size) = true := decide_eq_true c1
          by_cases c2 : 0 ≤ room
          · have d2 : decide (0 ≤ room) = true := decide_eq_true c2
            have HUsed := Lib.hid (show ∀ W, Below wc.heap.size wc W → Calls Try.prog 32 #[.agg #[.slice A l.length c, .int .i64 room, .slice none 0 0, .int .i64 next, .bool false]] W fun e w' => e = .returned (.int .i64 (U : Nat)) ∧ Below W.heap.size W w' from fun W hW => by
              rw [HU.out]
              exact rsize l A c _ _ _ _ W (Kd.C_below HCd.out hW) hl HS.out (by rw [← HU.out]; exact hsum))
            have HW := Lib.hid (show IntKind.i64.wrap (room - (U : Int)) = room - (U : Int) by rw [IntKind.wrap_i64]; omega)
            have HC1 := Lib.hid c1
            clear c1
            by_cases c3 : room - (U : Int) < ((onP f.now p).size : Int) - (f.now.size : Int)
            · have HZ := Lib.hid (show decide (full room U f.now.size (onP f.now p).size) = true from decide_eq_true ⟨by have := HC1.out; omega, c2, c3⟩)
              have HD3 := Lib.hid (show decide (room - (U : Int) < ((onP f.now p).size : Int) - (f.now.size : Int)) = true from decide_eq_true c3)
              go_region_held3 (fun w' => (w'.cell? ⟨w.heap.size, 0, none⟩ = some (.slice A l.length c) ∧ w'.cell? ⟨w.heap.size, 1, none⟩ = some (.int .i64 room) ∧ w'.cell? ⟨w.heap.size, 2, none⟩ = some (.slice none 0 0) ∧ w'.cell? ⟨w.heap.size, 3, none⟩ = some (.int .i64 next) ∧ w'.cell? ⟨w.heap.size, 4, none⟩ = some (.bool false)) ∧ Below wc.heap.size wc w')
                (first
                  | exact ⟨⟨x0, x1, x2, x3, x4⟩, below_drew (Below.refl _ _)⟩
                  | exact ⟨⟨x0, x1, x2, x3, x4⟩, pw_below_drewN (Below.refl _ _) _⟩
                  | exact held5 hb6 ⟨x0, x1, x2, x3, x4⟩ (pw_below_drewN (Below.refl _ _) _)
                  | ((refine ⟨⟨?_, ?_, ?_, ?_, ?_⟩, ?_⟩) <;> assumption)
                  | ((refine ⟨⟨?_, ?_, ?_, ?_, ?_⟩, pw_below_drewN ?_ _⟩) <;> assumption))
                (first
                  | (go_at_call 32; refine (HUsed.out _ (pw_below_drewN (Below.refl _ _) _)).mono ?_; rintro e' w6 ⟨rfl, hb6⟩))
              have HB6 := Lib.hid (held5 hb6 ⟨x0, x1, x2, x3, x4⟩ (pw_below_drewN (Below.refl _ _) _)).2
              go_wp2_with fail
              go_meet
              exact ⟨by rw [HZ.out, HW.out, HD3.out], HB6⟩
            · have HZ := Lib.hid (show decide (full room U f.now.size (onP f.now p).size) = false from decide_eq_false (fun h => c3 h.2.2))
              have HD3 := Lib.hid (show decide (room - (U : Int) < ((onP f.now p).size : Int) - (f.now.size : Int)) = false from decide_eq_false c3)
              go_region_held3 (fun w' => (w'.cell? ⟨w.heap.size, 0, none⟩ = some (.slice A l.length c) ∧ w'.cell? ⟨w.heap.size, 1, none⟩ = some (.int .i64 room) ∧ w'.cell? ⟨w.heap.size, 2, none⟩ = some (.slice none 0 0) ∧ w'.cell? ⟨w.heap.size, 3, none⟩ = some (.int .i64 next) ∧ w'.cell? ⟨w.heap.size, 4, none⟩ = some (.bool false)) ∧ Below wc.heap.size wc w')
                (first
                  | exact ⟨⟨x0, x1, x2, x3, x4⟩, below_drew (Below.refl _ _)⟩
                  | exact ⟨⟨x0, x1, x2, x3, x4⟩, pw_below_drewN (Below.refl _ _) _⟩
                  | exact held5 hb6 ⟨x0, x1, x2, x3, x4⟩ (pw_below_drewN (Below.refl _ _) _)
                  | ((refine ⟨⟨?_, ?_, ?_, ?_, ?_⟩, ?_⟩) <;> assumption)
                  | ((refine ⟨⟨?_, ?_, ?_, ?_, ?_⟩, pw_below_drewN ?_ _⟩) <;> assumption))
                (first
                  | (go_at_call 32; refine (HUsed.out _ (pw_below_drewN (Below.refl _ _) _)).mono ?_; rintro e' w6 ⟨rfl, hb6⟩))
              have HB6 := Lib.hid (held5 hb6 ⟨x0, x1, x2, x3, x4⟩ (pw_below_drewN (Below.refl _ _) _)).2
              go_wp2_with fail
              go_meet
              exact ⟨by rw [HZ.out, HW.out, HD3.out], HB6⟩
          · have d2 : decide (0 ≤ room) = false := decide_eq_false c2
            have HZ := Lib.hid (show decide (full room U f.now.size (onP f.now p).size) = false from decide_eq_false (fun h => c2 h.2.1))
            clear c2
            go_region
            go_wp2_with fail
            go_meet
            exact ⟨by rw [HZ.out], HBw⟩
        · have d1 : decide (f.now.size < (onP f.now p).size) = false := decide_eq_false c1
          have HZ := Lib.hid (show decide (full room U f.now.size (onP f.now p).size) = false from decide_eq_false (fun h => c1 (by have := h.1; omega)))
          go_region
          go_wp2_with fail
          go_meet
          exact ⟨by rw [HZ.out], HBw⟩
      case rest =>
        obtain ⟨rfl, HB6⟩ := hcut
        have HBe := Lib.hid (HBd.out.trans (HB6.out.mono HBd.out.size))
        have HXe := Lib.hid ((HBe.out.block _ (blk_lt HX3.out)).trans HX3.out)
        have HYe := Lib.hid ((HBe.out.block _ (blk_lt HY3.out)).trans HY3.out)
        have HQe := Lib.hid ((HBe.out.block _ (blk_lt HQ3.out)).trans HQ3.out)
        have HRe := Lib.hid (show RFile w wc l nme f w3.heap.size A2 c2 from ⟨(HB6.out.block _ (blk_lt HRd.out.at_)).trans HRd.out.at_, HRd.out.read, HRd.out.is, HRd.out.new⟩)
        have HBw := Lib.hid (HB3.out.trans (HBe.out.mono HB3.out.size))
        clear x0 x1 x2 x3 x4
        obtain ⟨x0, x1, x2, x3, x4⟩ := rd_cells HXe.out
        obtain ⟨z0, z1, z2, z3, z4⟩ := rd_cells HYe.out
        have fz2 := free_in HYe.out
        have fzx := free_in HXe.out
        by_cases hfull : full room U f.now.size (onP f.now p).size
        · rw [decide_eq_true hfull]
          have HZ := Lib.hid hfull
          clear hfull
          go_wp2_with fail
          refine bodyPost_ret (results_ct rfl _ _ (w.heap.size + 2) 29 #[.slice A l.length c, .int .i64 room, .slice none 0 0, .int .i64 next, .bool false] (0, 0) _ rfl (blk_set (blk_set (blk_set (blk_set (blk_set HYe.out 0 _) 1 _) 2 _) 3 _) 4 _) Try.underlying29 rfl (by kernel_rfl)) rfl ?_
          exact ⟨fun _ => ⟨rfl, below_sets HBw.out (by omega) [(0, _), (1, _), (2, _), (3, _), (4, _)]⟩, fun h => absurd HZ.out h⟩
        · rw [decide_eq_false hfull]
          have HZ := Lib.hid hfull
          have HSt := Lib.hid (rstrike A l.length c room next false wc ⟨hn0, hn1⟩)
          clear hfull
          go_wp2_with fail
          refine HSt.out.mono ?_
          rintro e' w6 ⟨rfl, hb6⟩
          have HX6 := Lib.hid ((hb6.block _ (blk_lt HXe.out)).trans HXe.out)
          have HB6' := Lib.hid hb6
          clear x0 x1 x2 x3 x4 fzx z0 z1 z2 z3 z4 fz2
          obtain ⟨x0, x1, x2, x3, x4⟩ := rd_cells HX6.out
          have fzx := free_in HX6.out
          clear hb6
          go_upto_region 17 with fail
          obtain ⟨w7, hw7⟩ : ∃ w7, setsOf w6 w.heap.size [(0, .slice A l.length c), (1, .int .i64 room), (2, .slice none 0 0), (3, .int .i64 (next + 1)), (4, .bool false)] = w7 := ⟨_, rfl⟩
          have HB7 := Lib.hid (show Below w.heap.size w w7 by rw [← hw7]; exact below_sets (HBw.out.trans (HB6'.out.mono HBw.out.size)) (Nat.le_refl _) _)
          have HX7 := Lib.hid (show w7.heap[w.heap.size]? = some (rd (.slice A l.length c) room (next + 1) false) by rw [← hw7]; exact blk_set (blk_set (blk_set (blk_set (blk_set HX6.out 0 _) 1 _) 2 _) 3 _) 4 _)
          have HO7 : ∀ k, k < wc.heap.size → k ≠ w.heap.size → w7.heap[k]? = wc.heap[k]? := fun k hk hne => by rw [← hw7, sets_other _ _ _ _ hne]; exact HB6'.out.block k hk
          have HQ7 := Lib.hid ((HO7 _ (blk_lt HQe.out) (by omega)).trans HQe.out)
          have HY7 := Lib.hid ((HO7 _ (blk_lt HYe.out) (by omega)).trans HYe.out)
          have HRs := Lib.hid (show RFile w w7 l nme f w3.heap.size A2 c2 from ⟨(HO7 _ (blk_lt HRe.out.at_) (by omega)).trans HRe.out.at_, HRe.out.read, HRe.out.is, HRe.out.new⟩)
          have HP7 := Lib.hid (Kd.C_below HRs.out.read HB7.out)
          have HH7 := Lib.hid (show Kd.R kF 75 w7 0 (fun _ => True) (.slice A l.length c) l by rw [← hw7]; exact R_sets (R_below2 HH3.out (HBe.out.trans (HB6'.out.mono HBe.out.size))) HX6.out (by decide) _)
          have hwe : ((((w6.setCell ⟨w.heap.size, 0, none⟩ (.slice A l.length c)).setCell ⟨w.heap.size, 1, none⟩ (.int .i64 room)).setCell ⟨w.heap.size, 2, none⟩ (.slice none 0 0)).setCell ⟨w.heap.size, 3, none⟩ (.int .i64 (next + 1))).setCell ⟨w.heap.size, 4, none⟩ (.bool false) = w7 := hw7
          rw [hwe]
          have hq7 : w.heap.size + 1 < w7.heap.size := blk_lt HQ7.out
          have hr7 : w3.heap.size < w7.heap.size := blk_lt HRs.out.at_
          have hle7 := HL.out
          obtain ⟨L9, hL9⟩ : ∃ L9, L9 = (f.put p).loose := ⟨_, rfl⟩
          have HLe := Lib.hid (show [] ++ f.loose ++ [p] = L9 from hL9.symm)
          have HLf := Lib.hid hL9
          clear hL9
          obtain ⟨i0, hi0, hz0, hz1, hz2⟩ := info_parts infoPut
          have hln1 : ([] : List (ByteArray × Bool)).length + f.loose.length ≤ maxLen := by unfold maxLen; simp; omega
          have hln2 : (([] : List (ByteArray × Bool)).length + f.loose.length) * 24 ≤ 140737488355328 := by simp; omega
          have hln3 : ([] ++ f.loose).length + 1 ≤ maxLen := by unfold maxLen; simp; omega
          have hln4 : (([] ++ f.loose).length + 1) * 24 ≤ 140737488355328 := by simp; omega
          clear hw7 hwe HO7 x0 x1 x2 x3 x4 fzx
          have q0 : w7.cell? ⟨w.heap.size + 1, 0, none⟩ = some (.string p.1) := cell_in HQ7.out 0
          have q1 : w7.cell? ⟨w.heap.size + 1, 1, none⟩ = some (.bool p.2) := cell_in HQ7.out 1
          have g3 : w7.cell? ⟨w3.heap.size, 3, none⟩ = some (.slice A2 f.loose.length c2) := cell_in HRs.out.at_ 3
          go_region_law (first
            | (guard_hyp hbox8; refine step_rows kP (by rfl) _ _ _ 78 (by rfl) 0 i0 _ 24 Try.underlying73 hi0 hz0 hz1 hz2 rfl (by decide) v1 ([] ++ f.loose) [p] (some ⟨w7.heap.size + 1, 0, none⟩) 1 1 (fun _ => True) (fun _ => False) (by rfl) (by rfl) hR8 (puts_one hbox8) (fun _ h => h.elim) (fun _ _ => trivial) (Nat.zero_le _) hln3 hln4 ?_; intro v2 w9 hR9 hg9 hat9; have hb9 : Below w7.heap.size w7 w9 := pw_below_grown hb8 _ hb8.size hg9 hown8; have k1 : w9.cell? ⟨w3.heap.size, 3, none⟩ = some (.slice A2 f.loose.length c2) := cell_in ((hb9.block _ hr7).trans HRs.out.at_) 3; have k2 : w9.frozen? ⟨w3.heap.size, 3, none⟩ = false := free_in ((hb9.block _ hr7).trans HRs.out.at_) 3; rw [HLe.out] at hR9; obtain ⟨A9, c9, rfl⟩ := Kd.R_slice hR9)
            | (guard_hyp hbox8; refine step_rows kP (by rfl) _ _ _ 78 (by rfl) 0 i0 _ 24 Try.underlying73 hi0 hz0 hz1 hz2 rfl (by decide) v1 ([] ++ f.loose) [p] (some ⟨w7.heap.size, 0, none⟩) 1 1 (fun _ => True) (fun _ => False) (by rfl) (by rfl) hR8 (puts_one hbox8) (fun _ h => h.elim) (fun _ _ => trivial) (Nat.zero_le _) hln3 hln4 ?_; intro v2 w9 hR9 hg9 hat9; have hb9 : Below w7.heap.size w7 w9 := pw_below_grown hb8 _ hb8.size hg9 hown8; have k1 : w9.cell? ⟨w3.heap.size, 3, none⟩ = some (.slice A2 f.loose.length c2) := cell_in ((hb9.block _ hr7).trans HRs.out.at_) 3; have k2 : w9.frozen? ⟨w3.heap.size, 3, none⟩ = false := free_in ((hb9.block _ hr7).trans HRs.out.at_) 3; rw [HLe.out] at hR9; obtain ⟨A9, c9, rfl⟩ := Kd.R_slice hR9)
            | (guard_hyp hb8; refine step_rows kP (by rfl) _ _ _ 78 (by rfl) 0 i0 _ 24 Try.underlying73 hi0 hz0 hz1 hz2 rfl (by decide) v1 ([] ++ f.loose) [p] (some ⟨w8.heap.size, 0, none⟩) 1 1 (fun _ => True) (fun _ => False) (by rfl) (by rfl) (Kd.R_alloc hR8 _) (puts_one (alloc_at' w8 _)) (fun _ h => h.elim) (fun _ _ => trivial) (Nat.zero_le _) hln3 hln4 ?_; intro v2 w9 hR9 hg9 hat9; have hb9 : Below w7.heap.size w7 w9 := pw_below_grown (hb8.alloc hb8.size _) _ (by simp; have := hb8.size; omega) hg9 hown8; have k1 : w9.cell? ⟨w3.heap.size, 3, none⟩ = some (.slice A2 f.loose.length c2) := cell_in ((hb9.block _ hr7).trans HRs.out.at_) 3; have k2 : w9.frozen? ⟨w3.heap.size, 3, none⟩ = false := free_in ((hb9.block _ hr7).trans HRs.out.at_) 3; rw [HLe.out] at hR9; obtain ⟨A9, c9, rfl⟩ := Kd.R_slice hR9)
            | (refine step_rows kP (by rfl) _ _ _ 78 (by rfl) 0 i0 _ 24 Try.underlying73 hi0 hz0 hz1 hz2 rfl (by decide) (.slice (some ⟨w7.heap.size, 0, none⟩) 0 0) [] f.loose A2 f.loose.length c2 (fun _ => True) (fun _ => False) (by rfl) (by rfl) (Kd.R_drew (puts_nil (w := w7) rfl)) (puts_read (Kd.C_below HP7.out ((Below.refl _ w7).alloc (Nat.le_refl _) _).drew)) (fun _ h => h.elim) (fun _ _ => trivial) (Nat.zero_le _) hln1 hln2 ?_; intro v1 w8 hR8 hg8 hat8; have hb8 : Below w7.heap.size w7 w8 := pw_below_grown ((Below.refl _ w7).alloc (Nat.le_refl _) _).drew _ (by simp; try omega) hg8 (fun k hk => by have := own_is hk.symm; omega); have hown8 : ∀ k, v1.ownBlock = some k → w7.heap.size ≤ k := fun k hk => row_new2 hat8 hk (by omega) (by simp; try omega); have q80 : w8.cell? ⟨w.heap.size + 1, 0, none⟩ = some (.string p.1) := cell_in ((hb8.block _ hq7).trans HQ7.out) 0; have q81 : w8.cell? ⟨w.heap.size + 1, 1, none⟩ = some (.bool p.2) := cell_in ((hb8.block _ hq7).trans HQ7.out) 1)
            | (refine step_rows kP (by rfl) _ _ _ 78 (by rfl) 0 i0 _ 24 Try.underlying73 hi0 hz0 hz1 hz2 rfl (by decide) (.slice (some ⟨w7.heap.size, 0, none⟩) 0 0) [] f.loose A2 f.loose.length c2 (fun _ => True) (fun _ => False) (by rfl) (by rfl) (Kd.R_drew (Kd.R_alloc (puts_nil (w := w7) rfl) _)) (puts_read (Kd.C_below HP7.out (((Below.refl _ w7).alloc (Nat.le_refl _) _).alloc (by simp) _).drew)) (fun _ h => h.elim) (fun _ _ => trivial) (Nat.zero_le _) hln1 hln2 ?_; intro v1 w8 hR8 hg8 hat8; have hb8 : Below w7.heap.size w7 w8 := pw_below_grown (((Below.refl _ w7).alloc (Nat.le_refl _) _).alloc (by simp) _).drew _ (by simp; try omega) hg8 (fun k hk => by have := own_is hk.symm; omega); have hown8 : ∀ k, v1.ownBlock = some k → w7.heap.size ≤ k := fun k hk => row_new2 hat8 hk (by omega) (by simp; try omega); have q80 : w8.cell? ⟨w.heap.size + 1, 0, none⟩ = some (.string p.1) := cell_in ((hb8.block _ hq7).trans HQ7.out) 0; have q81 : w8.cell? ⟨w.heap.size + 1, 1, none⟩ = some (.bool p.2) := cell_in ((hb8.block _ hq7).trans HQ7.out) 1; have hbox8 : w8.heap[w7.heap.size + 1]? = some (.cells #[.string p.1, .bool p.2] 78 (0, 0)) := box_kept hg8 (by simp [Value.ownBlock]) (heap_alloc2_new w7 _ _))
            | (refine step_rows kP (by rfl) _ _ _ 78 (by rfl) 0 i0 _ 24 Try.underlying73 hi0 hz0 hz1 hz2 rfl (by decide) (.slice (some ⟨w7.heap.size + 1, 0, none⟩) 0 0) [] f.loose A2 f.loose.length c2 (fun _ => True) (fun _ => False) (by rfl) (by rfl) (Kd.R_drew (puts_nil (w := w7.alloc _) (by simp))) (puts_read (Kd.C_below HP7.out (((Below.refl _ w7).alloc (Nat.le_refl _) _).alloc (by simp) _).drew)) (fun _ h => h.elim) (fun _ _ => trivial) (Nat.zero_le _) hln1 hln2 ?_; intro v1 w8 hR8 hg8 hat8; have hb8 : Below w7.heap.size w7 w8 := pw_below_grown (((Below.refl _ w7).alloc (Nat.le_refl _) _).alloc (by simp) _).drew _ (by simp; try omega) hg8 (fun k hk => by have := own_is hk.symm; omega); have hown8 : ∀ k, v1.ownBlock = some k → w7.heap.size ≤ k := fun k hk => row_new2 hat8 hk (by omega) (by simp; try omega); have q80 : w8.cell? ⟨w.heap.size + 1, 0, none⟩ = some (.string p.1) := cell_in ((hb8.block _ hq7).trans HQ7.out) 0; have q81 : w8.cell? ⟨w.heap.size + 1, 1, none⟩ = some (.bool p.2) := cell_in ((hb8.block _ hq7).trans HQ7.out) 1; have hbox8 : w8.heap[w7.heap.size]? = some (.cells #[.string p.1, .bool p.2] 78 (0, 0)) := box_kept hg8 (by simp [Value.ownBlock]) ((Below.heap_alloc _ _ _ (by simp)).trans (alloc_at w7 _))))
          all_goals
            have hf9 := (hb9.block _ hr7).trans HRs.out.at_
            have HB9 := Lib.hid (show Below w.heap.size w (w9.setCell ⟨w3.heap.size, 3, none⟩ (.slice A9 L9.length c9)) from Below.setCell (HB7.out.trans (hb9.mono HB7.out.size)) (Nat.le_of_lt hw3lt) _)
            have HF9 := Lib.hid (show (w9.setCell ⟨w3.heap.size, 3, none⟩ (.slice A9 L9.length c9)).heap[w3.heap.size]? = some (.cells #[.string nme, .string f.sure, .bool f.there, .slice A9 L9.length c9] 75 (0, 0)) from blk_set hf9 3 _)
            have HL9 := Lib.hid (show Kd.R kP 78 (w9.setCell ⟨w3.heap.size, 3, none⟩ (.slice A9 L9.length c9)) 0 (fun _ => True) (.slice A9 L9.length c9) (f.put p).loose from by rw [← HLf.out]; exact Kd.R_set hR9 hf9 (by decide) 3 _)
            have HX9 := Lib.hid (show (w9.setCell ⟨w3.heap.size, 3, none⟩ (.slice A9 L9.length c9)).heap[w.heap.size]? = some (rd (.slice A l.length c) room (next + 1) false) from (Below.heap_setCell _ _ _ _ (by show w.heap.size ≠ w3.heap.size; omega)).trans ((hb9.block _ (blk_lt HX7.out)).trans HX7.out))
            have HY9 := Lib.hid (show (w9.setCell ⟨w3.heap.size, 3, none⟩ (.slice A9 L9.length c9)).heap[w.heap.size + 2]? = some rz from (Below.heap_setCell _ _ _ _ (by show w.heap.size + 2 ≠ w3.heap.size; omega)).trans ((hb9.block _ (blk_lt HY7.out)).trans HY7.out))
            generalize w9.setCell ⟨w3.heap.size, 3, none⟩ (.slice A9 L9.length c9) = w10 at HB9 HF9 HL9 HX9 HY9 ⊢
            have HWi := Lib.hid (rwith l (.slice A l.length c) (.slice A9 L9.length c9) room (next + 1) false nme (f.put p) w10 (R_below2 Hh.out HB9.out) HL9.out hl HRi.out)
            clear hf9 hR8 hg8 hat8 hb8 hown8 q80 q81 hR9 hg9 hat9 hb9 k1 k2 q0 q1 g3
            obtain ⟨x0, x1, x2, x3, x4⟩ := rd_cells HX9.out
            have g0 : w10.cell? ⟨w3.heap.size, 0, none⟩ = some (.string nme) := cell_in HF9.out 0
            have g1 : w10.cell? ⟨w3.heap.size, 1, none⟩ = some (.string f.sure) := cell_in HF9.out 1
            have g2 : w10.cell? ⟨w3.heap.size, 2, none⟩ = some (.bool f.there) := cell_in HF9.out 2
            have g3 : w10.cell? ⟨w3.heap.size, 3, none⟩ = some (.slice A9 L9.length c9) := cell_in HF9.out 3
            go_wp2_with fail
            refine HWi.out.mono ?_
            rintro e' w11 ⟨vf', rfl, hR11, hb11⟩
            obtain ⟨A', c', rfl⟩ := Kd.R_slice hR11
            have HY11 := Lib.hid ((hb11.block _ (blk_lt HY9.out)).trans HY9.out)
            have HR11 := Lib.hid hR11
            have HB11 := Lib.hid (HB9.out.trans (hb11.mono HB9.out.size))
            clear hR11 hb11 x0 x1 x2 x3 x4 g0 g1 g2 g3
            obtain ⟨z0, z1, z2, z3, z4⟩ := rd_cells HY11.out
            have fz2 := free_in HY11.out
            go_wp2_with fail
            refine bodyPost_ret (results_ct rfl _ _ (w.heap.size + 2) 29 #[.slice A' (putS l nme (f.put p)).length c', .int .i64 room, .slice none 0 0, .int .i64 (next + 1), .bool false] (0, 0) _ rfl (blk_set (blk_set (blk_set (blk_set (blk_set HY11.out 0 _) 1 _) 2 _) 3 _) 4 _) Try.underlying29 rfl (by kernel_rfl)) rfl ?_
            exact ⟨fun h => absurd h HZ.out, fun _ => ⟨_, rfl, R_sets HR11.out HY11.out (by decide) [(0, _), (1, _), (2, _), (3, _), (4, _)], below_sets HB11.out (by omega) [(0, _), (1, _), (2, _), (3, _), (4, _)]⟩⟩
end Go.Proofs.YtcongfiojbajeaaK
