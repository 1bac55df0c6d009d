/- The document's disk: a file's bytes, where a name stands, how much there is: the walks. Conditions: the state is small. -/
import Derived.Test.YtcongfiojbajeaaDiskNames
import Derived.Test.YtcongfiojbajeaaDiskRefP
namespace Go.Proofs.YtcongfiojbajeaaK
open Go Go.RowKit Go.Maps Go.Proofs.YtcongfiojbajeaaM Go.Proofs.YtcongfiojbajeaaW.PrintWords Go.Proofs.YtcongfiojbajeaaN
set_option linter.unusedVariables false
set_option linter.unusedSimpArgs false
/-- A file as the document has it: its name, its sure bytes, whether it was settled, its puts. -/
def kF : Kd (ByteArray × PF) := Kd.iso (Kd.pair Kd.string (Kd.pair Kd.string (Kd.pair Kd.bool (Kd.slice 78 kP)))) (fun p => (p.1, p.2.sure, p.2.there, p.2.loose))
/-- A file's cells. -/
theorem file_cells {w : World} {p : ByteArray × PF} {cs : List Value} (h : kF.K w p cs) : ∃ A c, cs = [.string p.1, .string p.2.sure, .bool p.2.there, .slice A p.2.loose.length c] ∧ p.2.loose.length ≤ c ∧ Kd.C kP w A p.2.loose.length p.2.loose := by
  obtain ⟨c0, c1, rfl, h0, d0, d1, rfl, h1, e0, e1, rfl, h2, A, c, rfl, hl, hC⟩ := h
  have h0 : c0 = [.string p.1] := h0
  have h1 : d0 = [.string p.2.sure] := h1
  have h2 : e0 = [.bool p.2.there] := h2
  subst h0 h1 h2
  exact ⟨A, c, rfl, hl, hC⟩
theorem file_read {w : World} {A : Option Addr} {n : Nat} {l : List (ByteArray × PF)} (h : Kd.C kF w A n l) (m : Nat) (hm : m < l.length) (hn : m < n) :
    ∃ ad A' c', A = some ad ∧ w.cell? (ad.add (m * 4)) = some (.string l[m].1) ∧ w.cell? ⟨(ad.add (m * 4)).block, (ad.add (m * 4)).off + 1, none⟩ = some (.string l[m].2.sure) ∧ w.cell? ⟨(ad.add (m * 4)).block, (ad.add (m * 4)).off + 2, none⟩ = some (.bool l[m].2.there) ∧
      w.cell? ⟨(ad.add (m * 4)).block, (ad.add (m * 4)).off + 3, none⟩ = some (.slice A' l[m].2.loose.length c') ∧ l[m].2.loose.length ≤ c' ∧ Kd.C kP w A' l[m].2.loose.length l[m].2.loose := by
  obtain ⟨ad, cc, eA, _, hK, hcc⟩ := Kd.C_get h (ByteArray.empty, ⟨ByteArray.empty, false, []⟩) m (by omega) (by omega)
  have hx : l.getD (m : Int).toNat (ByteArray.empty, ⟨ByteArray.empty, false, []⟩) = l[m] := by simp [List.getD, hm]
  rw [hx] at hK
  obtain ⟨A', c', rfl, hl, hC⟩ := file_cells hK
  have hat : ∀ j, 0 < j → ad.add ((m : Int).toNat * 4 + j) = ⟨(ad.add (m * 4)).block, (ad.add (m * 4)).off + j, none⟩ := fun j hj => by
    rw [Int.toNat_natCast]
    by_cases h0 : m = 0
    · subst h0
      unfold Addr.add
      simp [Nat.ne_of_gt hj]
    · have h2 : ¬ (m * 4 = 0) := by omega
      have h3 : ¬ (m * 4 + j = 0) := by omega
      unfold Addr.add
      simp only [h2, h3, if_false, Addr.mk.injEq, and_true, true_and]
      omega
  refine ⟨ad, A', c', eA, ?_, ?_, ?_, ?_, hl, hC⟩
  · have q := hcc 0 _ rfl
    have e : kF.sz = 4 := rfl
    rw [e] at q
    simpa using q
  · rw [← hat 1 (by omega)]; exact hcc 1 _ rfl
  · rw [← hat 2 (by omega)]; exact hcc 2 _ rfl
  · rw [← hat 3 (by omega)]; exact hcc 3 _ rfl
theorem empty_app (s : ByteArray) : (⟨#[]⟩ : ByteArray) ++ s = s := by
  have : (⟨#[]⟩ : ByteArray) = ByteArray.empty := rfl
  rw [this, ByteArray.empty_append]
set_option maxHeartbeats 2000000 in
set_option maxRecDepth 100000 in
theorem rafter (nme : ByteArray) (f : PF) (A : Option Addr) (c : Nat) (n : Nat) (w : World) (hc : Kd.C kP w A f.loose.length f.loose) (hv : f.vol ≤ 1000000) (hl : f.loose.length ≤ 1000000) (hn : n ≤ f.loose.length) :
    Calls Try.prog 37 #[.agg #[.string nme, .string f.sure, .bool f.there, .slice A f.loose.length c], .int .i64 n] w fun e w' => e = .returned (.string ((f.loose.take n).foldl onP f.sure)) ∧ Below w.heap.size w w' := by
  obtain ⟨w1, hw1⟩ : ∃ w1, w.alloc (.cells #[.string nme, .string f.sure, .bool f.there, .slice A f.loose.length c] 75) = w1 := ⟨_, rfl⟩
  have HB1 := Lib.hid (show Below w.heap.size w w1 by rw [← hw1]; exact (Below.refl _ _).alloc (Nat.le_refl _) _)
  have HX1 := Lib.hid (show w1.heap[w.heap.size]? = some (.cells #[.string nme, .string f.sure, .bool f.there, .slice A f.loose.length c] 75 (0, 0)) by rw [← hw1]; exact alloc_at w _)
  have x1 : w1.cell? ⟨w.heap.size, 1, none⟩ = some (.string f.sure) := cell_in HX1.out 1
  have x3 : w1.cell? ⟨w.heap.size, 3, none⟩ = some (.slice A f.loose.length c) := cell_in HX1.out 3
  have HC := Lib.hid (Kd.C_below hc HB1.out)
  have HV := Lib.hid hv
  have HL := Lib.hid hl
  clear hc hv
  go_enter Try.func37, Try.ntmps37
  go_wp2_with fail
  go_loopw [5, 6] (fun s i wr => ∃ k : Nat, k ≤ n ∧ i = .int .i64 k ∧ s = .string ((f.loose.take k).foldl onP f.sure) ∧ wr = w1) (fun _ i _ => n + 1 - (intOf i).toNat)
  case atStart => exact ⟨0, by omega, rfl, rfl, rfl⟩
  case round =>
    obtain ⟨k, hk, rfl, rfl, hwr⟩ := hrel
    subst hwr
    by_cases hlt : k < n
    · have hlt' : k < f.loose.length := by omega
      have d1 : decide ((k : Int) < (n : Int)) = true := decide_eq_true (by omega)
      have p1 : (0 ≤ (k : Int)) = True := eq_true (by omega)
      have q1 : ((k : Int) < (f.loose.length : Int)) = True := eq_true (by omega)
      obtain ⟨ad, rfl, y0, y1⟩ := piece_read HC.out k hlt' hlt'
      have hsm := piece_small f k hlt'
      have HT := Lib.hid (show (f.loose.take (k + 1)).foldl onP f.sure = onP ((f.loose.take k).foldl onP f.sure) f.loose[k] by
        rw [List.take_succ_eq_append_getElem hlt', List.foldl_append]; rfl)
      generalize f.loose[k] = p at y0 y1 hsm HT
      obtain ⟨t, b⟩ := p
      have hsz : ((f.loose.take k).foldl onP f.sure).size + t.size ≤ 1000000 := Nat.le_trans hsm HV.out
      have h2 : ((f.loose.take k).foldl onP f.sure).size + t.size ≤ 9223372036854775807 := by omega
      have h3 : t.size ≤ 9223372036854775807 := by omega
      generalize (f.loose.take k).foldl onP f.sure = s at hsz h2 HT ⊢
      clear hsm
      cases b with
      | true =>
        have HO := Lib.hid (show onP s (t, true) = (⟨#[]⟩ : ByteArray) ++ t from (empty_app t).symm)
        go_wp2_with fail
        go_roundw
        case rel => exact ⟨k + 1, by omega, by go_num, by rw [HT.out, HO.out], trivial⟩
        case measure => simp [intOf]; omega
      | false =>
        have HO := Lib.hid (show onP s (t, false) = s ++ t from rfl)
        go_wp2_with fail
        go_roundw
        case rel => exact ⟨k + 1, by omega, by go_num, by rw [HT.out, HO.out], trivial⟩
        case measure => simp [intOf]; omega
    · obtain rfl : k = n := by omega
      have d1 : decide ((k : Int) < (k : Int)) = false := decide_eq_false (by omega)
      go_wp2
      go_ret
      exact ⟨rfl, HB1.out⟩
set_option maxRecDepth 100000 in
theorem rbytes (nme : ByteArray) (f : PF) (A : Option Addr) (c : Nat) (w : World) (hc : Kd.C kP w A f.loose.length f.loose) (hv : f.vol ≤ 1000000) (hl : f.loose.length ≤ 1000000) :
    Calls Try.prog 36 #[.agg #[.string nme, .string f.sure, .bool f.there, .slice A f.loose.length c]] w fun e w' => e = .returned (.string f.now) ∧ Below w.heap.size w w' := by
  obtain ⟨w1, hw1⟩ : ∃ w1, w.alloc (.cells #[.string nme, .string f.sure, .bool f.there, .slice A f.loose.length c] 75) = w1 := ⟨_, rfl⟩
  have HB1 := Lib.hid (show Below w.heap.size w w1 by rw [← hw1]; exact (Below.refl _ _).alloc (Nat.le_refl _) _)
  have hx1 : w1.heap[w.heap.size]? = some (.cells #[.string nme, .string f.sure, .bool f.there, .slice A f.loose.length c] 75 (0, 0)) := by rw [← hw1]; exact alloc_at w _
  have x0 : w1.cell? ⟨w.heap.size, 0, none⟩ = some (.string nme) := cell_in hx1 0
  have x1 : w1.cell? ⟨w.heap.size, 1, none⟩ = some (.string f.sure) := cell_in hx1 1
  have x2 : w1.cell? ⟨w.heap.size, 2, none⟩ = some (.bool f.there) := cell_in hx1 2
  have x3 : w1.cell? ⟨w.heap.size, 3, none⟩ = some (.slice A f.loose.length c) := cell_in hx1 3
  have HA := Lib.hid (rafter nme f A c f.loose.length w1 (Kd.C_below hc HB1.out) hv hl (Nat.le_refl _))
  have HN := Lib.hid (show (f.loose.take f.loose.length).foldl onP f.sure = f.now by rw [List.take_length]; rfl)
  rw [HN.out] at HA
  clear hx1 hc
  go_enter Try.func36, Try.ntmps36
  go_wp2_with fail
  refine HA.out.mono ?_
  rintro e w2 ⟨rfl, hb⟩
  have HB := Lib.hid (HB1.out.trans (hb.mono HB1.out.size))
  clear hb
  go_wp2
  go_ret
  exact ⟨rfl, HB.out⟩
set_option maxRecDepth 100000 in
theorem rsettled (a b c d : Value) (nme s : ByteArray) (w : World) :
    Calls Try.prog 58 #[.agg #[a, b, c, d], .string nme, .string s] w fun e w' => e = .returned (.agg #[.string nme, .string s, .bool true, .slice none 0 0]) ∧ Below w.heap.size w w' := by
  go_enter Try.func58, Try.ntmps58
  go_wp2
  refine bodyPost_ret (results_cell_row rfl _ _ (w.heap.size + 1) 75 #[.string nme, .string s, .bool true, .slice none 0 0] (0, 0) _ rfl (heap_alloc2_new _ _ _) Try.underlying75 rfl (by kernel_rfl)) rfl ?_
  exact ⟨rfl, ((Below.refl _ w).alloc (Nat.le_refl _) _).alloc (by simp) _⟩
/-- The document's disk, as a value. -/
def dv (vf : Value) (σ : PD) : Value := .agg #[vf, .int .i64 σ.room, .slice none 0 0, .int .i64 σ.next, .bool (!σ.power)]
set_option maxHeartbeats 2000000 in
set_option maxRecDepth 100000 in
theorem rfind (l : List (ByteArray × PF)) (A : Option Addr) (c : Nat) (a b d e : Value) (nme : ByteArray) (w : World) (hc : Kd.C kF w A l.length l) (hl : l.length ≤ 1000000) :
    Calls Try.prog 54 #[.agg #[.slice A l.length c, a, b, d, e], .string nme] w fun e w' => e = .returned (.tuple #[.int .i64 (idx l nme : Nat), .bool (isI l nme)]) ∧ Below w.heap.size w w' := by
  obtain ⟨w1, hw1⟩ : ∃ w1, w.alloc (.cells #[.slice A l.length c, a, b, d, e] 29) = w1 := ⟨_, rfl⟩
  have HB1 := Lib.hid (show Below w.heap.size w w1 by rw [← hw1]; exact (Below.refl _ _).alloc (Nat.le_refl _) _)
  have HX1 := Lib.hid (show w1.heap[w.heap.size]? = some (.cells #[.slice A l.length c, a, b, d, e] 29 (0, 0)) by rw [← hw1]; exact alloc_at w _)
  have x0 : w1.cell? ⟨w.heap.size, 0, none⟩ = some (.slice A l.length c) := cell_in HX1.out 0
  have HC := Lib.hid (Kd.C_below hc HB1.out)
  clear hc
  have hidx := idx_le l nme
  go_enter Try.func54, Try.ntmps54
  go_wp2_with fail
  go_loopw [6] (fun i wr => ∃ k : Nat, k ≤ idx l nme ∧ i = .int .i64 k ∧ wr = w1) (fun i _ => idx l nme + 1 - (intOf i).toNat)
  case atStart => exact ⟨0, by omega, rfl, rfl⟩
  case round =>
    obtain ⟨k, hk, rfl, hwr⟩ := hrel
    subst hwr
    by_cases hlt : k < l.length
    · have d1 : decide ((k : Int) < (l.length : Int)) = true := decide_eq_true (by omega)
      have p1 : (0 ≤ (k : Int)) = True := eq_true (by omega)
      have q1 : ((k : Int) < (l.length : Int)) = True := eq_true (by omega)
      obtain ⟨ad, A', c', rfl, y0, _, _, _, _, _⟩ := file_read HC.out k hlt hlt
      by_cases hki : k < idx l nme
      · have hb := idx_below hki hlt
        have d2 : Op.bytesLess l[k].1.toList nme.toList = true := hb
        generalize l[k].1 = x at y0 d2
        clear hb
        go_wp2_with fail
        go_roundw
        case rel => exact ⟨k + 1, by omega, by go_num, trivial⟩
        case measure => simp [intOf]; omega
      · obtain rfl : k = idx l nme := by omega
        have hb := idx_at hlt
        have d2 : Op.bytesLess l[idx l nme].1.toList nme.toList = false := hb
        have HI := Lib.hid (isI_is hlt)
        generalize l[idx l nme].1 = x at y0 d2 HI
        clear hb
        have HQ := Lib.hid (show (x.toList == nme.toList) = isI l nme by
          rw [HI.out]
          by_cases h : x = nme
          · subst h; simp
          · rw [decide_eq_false h]; exact beq_eq_false_iff_ne.2 (fun e => h (bytes_same e)))
        have HB2 := Lib.hid (HB1.out.drew)
        obtain ⟨bi, hbi⟩ : ∃ bi, bi = isI l nme := ⟨_, rfl⟩
        rw [← hbi] at HQ
        have HBi := Lib.hid hbi
        have hq := HQ.out
        clear HI hbi
        go_wp2_with fail
        go_region
        go_wp2_with fail
        go_ret2
        exact ⟨by rw [← HBi.out]; rfl, HB2.out⟩
    · obtain rfl : k = idx l nme := by omega
      have d1 : decide ((idx l nme : Int) < (l.length : Int)) = false := decide_eq_false (by omega)
      have HI := Lib.hid (isI_out hlt)
      have HB2 := Lib.hid (HB1.out.drew)
      go_wp2_with fail
      go_region
      go_wp2_with fail
      go_ret2
      exact ⟨by rw [HI.out]; rfl, HB2.out⟩
/-- A file's value. -/
theorem agg_read {w : World} {A : Option Addr} {n : Nat} {l : List (ByteArray × PF)} (h : Kd.C kF w A n l) (m : Nat) (hm : m < l.length) (hn : m < n) :
    ∃ ad A' c', A = some ad ∧ (w.cell? (ad.add (m * 4)) = some (.string l[m].1) ∧ w.cell? ⟨(ad.add (m * 4)).block, (ad.add (m * 4)).off + 1, none⟩ = some (.string l[m].2.sure) ∧ w.cell? ⟨(ad.add (m * 4)).block, (ad.add (m * 4)).off + 2, none⟩ = some (.bool l[m].2.there) ∧
      w.cell? ⟨(ad.add (m * 4)).block, (ad.add (m * 4)).off + 3, none⟩ = some (.slice A' l[m].2.loose.length c')) ∧ l[m].2.loose.length ≤ c' ∧ Kd.C kP w A' l[m].2.loose.length l[m].2.loose := by
  obtain ⟨ad, A', c', h1, h2, h3, h4, h5, h6, h7⟩ := file_read h m hm hn
  exact ⟨ad, A', c', h1, ⟨h2, h3, h4, h5⟩, h6, h7⟩
def sumTo (g : ByteArray × PF → Nat) (l : List (ByteArray × PF)) (k : Nat) : Nat := ((l.take k).map g).sum
theorem sumTo_succ (g : ByteArray × PF → Nat) {l : List (ByteArray × PF)} {k : Nat} (hk : k < l.length) : sumTo g l (k + 1) = sumTo g l k + g l[k] := by
  unfold sumTo
  rw [List.take_succ_eq_append_getElem hk, List.map_append, List.sum_append]
  simp
theorem sumTo_all (g : ByteArray × PF → Nat) (l : List (ByteArray × PF)) : sumTo g l l.length = (l.map g).sum := by unfold sumTo; rw [List.take_length]
theorem sumTo_le (g : ByteArray × PF → Nat) (l : List (ByteArray × PF)) (k : Nat) : sumTo g l k ≤ (l.map g).sum := by
  unfold sumTo
  conv => rhs; rw [← List.take_append_drop k l, List.map_append, List.sum_append]
  omega
set_option maxHeartbeats 2000000 in
set_option maxRecDepth 100000 in
theorem rsize (l : List (ByteArray × PF)) (A : Option Addr) (c : Nat) (a b d e : Value) (w : World) (hc : Kd.C kF w A l.length l) (hl : l.length ≤ 1000000) (hs : ∀ p ∈ l, p.2.vol ≤ 1000000 ∧ p.2.loose.length ≤ 1000000) (hsum : (l.map fun p => p.2.now.size).sum ≤ 1000000) :
    Calls Try.prog 32 #[.agg #[.slice A l.length c, a, b, d, e]] w fun e w' => e = .returned (.int .i64 ((l.map fun p => p.2.now.size).sum : Nat)) ∧ Below w.heap.size w w' := by
  obtain ⟨w1, hw1⟩ : ∃ w1, w.alloc (.cells #[.slice A l.length c, a, b, d, e] 29) = w1 := ⟨_, rfl⟩
  have HB1 := Lib.hid (show Below w.heap.size w w1 by rw [← hw1]; exact (Below.refl _ _).alloc (Nat.le_refl _) _)
  have HX1 := Lib.hid (show w1.heap[w.heap.size]? = some (.cells #[.slice A l.length c, a, b, d, e] 29 (0, 0)) by rw [← hw1]; exact alloc_at w _)
  have HC := Lib.hid (Kd.C_below hc HB1.out)
  have HS := Lib.hid hs
  have HW := Lib.hid (rfl : w1 = w1)
  have HE := Lib.hid (sumTo_all (fun p => p.2.now.size) l)
  obtain ⟨T, hT⟩ : ∃ T, T = (l.map fun p => p.2.now.size).sum := ⟨_, rfl⟩
  rw [← hT] at hsum HE ⊢
  have HT := Lib.hid hT
  clear hc hs hT
  go_enter Try.func32, Try.ntmps32
  go_wp2_with fail
  go_loopw [3, 4] (fun n i wr => ∃ k S : Nat, k ≤ l.length ∧ S ≤ T ∧ i = .int .i64 k ∧ n = .int .i64 S ∧ Hid (S = sumTo (fun p => p.2.now.size) l k) ∧ Hid (Below w1.heap.size w1 wr)) (fun _ i _ => l.length + 1 - (intOf i).toNat)
  case atStart => exact ⟨0, 0, by omega, by omega, rfl, rfl, rfl, Below.refl _ _⟩
  case round =>
    obtain ⟨k, S, hk, hST, rfl, rfl, HSk, HBr⟩ := hrel
    have x0 : wr.cell? ⟨w.heap.size, 0, none⟩ = some (.slice A l.length c) := cell_in ((HBr.out.block _ (blk_lt HX1.out)).trans HX1.out) 0
    by_cases hlt : k < l.length
    · have d1 : decide ((k : Int) < (l.length : Int)) = true := decide_eq_true (by omega)
      have p1 : (0 ≤ (k : Int)) = True := eq_true (by omega)
      have q1 : ((k : Int) < (l.length : Int)) = True := eq_true (by omega)
      obtain ⟨ad, A', c', rfl, ⟨y0, y1, y2, y3⟩, hle, hC⟩ := agg_read (Kd.C_below HC.out HBr.out) k hlt hlt
      have HBy := Lib.hid (rbytes l[k].1 l[k].2 A' c' wr hC (HS.out _ (List.getElem_mem hlt)).1 (HS.out _ (List.getElem_mem hlt)).2)
      have HN := Lib.hid (sumTo_succ (fun p => p.2.now.size) hlt)
      have hle2 : S + l[k].2.now.size ≤ T := by
        have := sumTo_le (fun p : ByteArray × PF => p.2.now.size) l (k + 1)
        rw [HN.out, ← HT.out, ← HSk.out] at this; exact this
      generalize l[k] = f at y0 y1 y2 y3 HBy HN hle2
      clear hC hle
      go_wp2_with fail
      refine HBy.out.mono ?_
      rintro e' w2 ⟨rfl, hb⟩
      have HB2 := Lib.hid (HBr.out.trans (hb.mono HBr.out.size))
      clear hb y0 y1 y2 y3
      go_wp2_with fail
      go_roundw
      case rel => exact ⟨k + 1, S + f.2.now.size, by omega, hle2, by go_num, by go_num, Lib.hid (by rw [HN.out, ← HSk.out]), HB2⟩
      case measure => simp [intOf]; omega
    · obtain rfl : k = l.length := by omega
      have d1 : decide ((l.length : Int) < (l.length : Int)) = false := decide_eq_false (by omega)
      have hST2 : S = T := by rw [HSk.out, HE.out]
      subst hST2
      go_wp2
      go_ret
      exact ⟨rfl, HB1.out.trans (HBr.out.mono HB1.out.size)⟩
set_option maxHeartbeats 2000000 in
set_option maxRecDepth 100000 in
theorem rloose (l : List (ByteArray × PF)) (A : Option Addr) (c : Nat) (a b d e : Value) (w : World) (hc : Kd.C kF w A l.length l) (hl : l.length ≤ 1000000) (hsum : (l.map fun p => p.2.loose.length).sum ≤ 1000000) :
    Calls Try.prog 35 #[.agg #[.slice A l.length c, a, b, d, e]] w fun e w' => e = .returned (.int .i64 ((l.map fun p => p.2.loose.length).sum : Nat)) ∧ Below w.heap.size w w' := by
  obtain ⟨w1, hw1⟩ : ∃ w1, w.alloc (.cells #[.slice A l.length c, a, b, d, e] 29) = w1 := ⟨_, rfl⟩
  have HB1 := Lib.hid (show Below w.heap.size w w1 by rw [← hw1]; exact (Below.refl _ _).alloc (Nat.le_refl _) _)
  have HX1 := Lib.hid (show w1.heap[w.heap.size]? = some (.cells #[.slice A l.length c, a, b, d, e] 29 (0, 0)) by rw [← hw1]; exact alloc_at w _)
  have x0 : w1.cell? ⟨w.heap.size, 0, none⟩ = some (.slice A l.length c) := cell_in HX1.out 0
  have HC := Lib.hid (Kd.C_below hc HB1.out)
  have HE := Lib.hid (sumTo_all (fun p => p.2.loose.length) l)
  obtain ⟨T, hT⟩ : ∃ T, T = (l.map fun p => p.2.loose.length).sum := ⟨_, rfl⟩
  rw [← hT] at hsum HE ⊢
  have HT := Lib.hid hT
  clear hc hT
  go_enter Try.func35, Try.ntmps35
  go_wp2_with fail
  go_loopw [3, 4] (fun n i wr => ∃ k S : Nat, k ≤ l.length ∧ S ≤ T ∧ i = .int .i64 k ∧ n = .int .i64 S ∧ Hid (S = sumTo (fun p => p.2.loose.length) l k) ∧ wr = w1) (fun _ i _ => l.length + 1 - (intOf i).toNat)
  case atStart => exact ⟨0, 0, by omega, by omega, rfl, rfl, rfl, rfl⟩
  case round =>
    obtain ⟨k, S, hk, hST, rfl, rfl, HSk, hwr⟩ := hrel
    subst hwr
    by_cases hlt : k < l.length
    · have d1 : decide ((k : Int) < (l.length : Int)) = true := decide_eq_true (by omega)
      have p1 : (0 ≤ (k : Int)) = True := eq_true (by omega)
      have q1 : ((k : Int) < (l.length : Int)) = True := eq_true (by omega)
      obtain ⟨ad, A', c', rfl, ⟨y0, y1, y2, y3⟩, hle, hC⟩ := agg_read HC.out k hlt hlt
      have HN := Lib.hid (sumTo_succ (fun p => p.2.loose.length) hlt)
      have hle2 : S + l[k].2.loose.length ≤ T := by
        have := sumTo_le (fun p : ByteArray × PF => p.2.loose.length) l (k + 1)
        rw [HN.out, ← HT.out, ← HSk.out] at this; exact this
      generalize l[k] = f at y0 y1 y2 y3 HN hle2 hC hle
      clear hC hle y0 y1 y2
      go_wp2_with fail
      go_roundw
      case rel => exact ⟨k + 1, S + f.2.loose.length, by omega, hle2, by go_num, by go_num, Lib.hid (by rw [HN.out, ← HSk.out]), trivial⟩
      case measure => simp [intOf]; omega
    · obtain rfl : k = l.length := by omega
      have d1 : decide ((l.length : Int) < (l.length : Int)) = false := decide_eq_false (by omega)
      have hST2 : S = T := by rw [HSk.out, HE.out]
      subst hST2
      go_wp2
      go_ret
      exact ⟨rfl, HB1.out⟩
end Go.Proofs.YtcongfiojbajeaaK
