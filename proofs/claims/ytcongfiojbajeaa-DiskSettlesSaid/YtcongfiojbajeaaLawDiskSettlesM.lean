/- The law DiskSettles: the walk, and the row. -/
import Derived.Test.YtcongfiojbajeaaDiskLawK
import Derived.Test.YtcongfiojbajeaaRows
import Derived.DataShut
import Derived.WalkKit
import Derived.ProofKit
import Derived.OpenShut
import Derived.ShutString
import Derived.ChangeOld
import Derived.Below
import Derived.SizedLaws
namespace Go.Proofs.YtcongfiojbajeaaK
open Go Go.RowKit Go.Maps Go.Proofs.YtcongfiojbajeaaM Go.Proofs.YtcongfiojbajeaaW.PrintWords Go.Proofs.YtcongfiojbajeaaN
set_option linter.unusedVariables false
set_option linter.unusedSimpArgs false
theorem bits_3 (x : Int) : 0 ≤ Go.bits .and .i64 x 3 ∧ Go.bits .and .i64 x 3 ≤ 3 := bits_low x 2 (by decide)
theorem put_good {σ : PD} {m : Nat} (hg : σ.Good m) (hr : Rises σ.files) (s : ByteArray) (p : ByteArray × Bool) (hp : p.1.size ≤ 60) : (σ.put s p).1.Good (m + 1) := by
  have hk := put_keeps σ hr s p
  have h1 := PD.put_mass hr s p
  have h2 := σ.next_le s s p 0 true
  exact ⟨by have := hg.mass; omega, by have := hg.next0; omega, by have := hg.next1; omega, by rw [hk.1]; exact hg.power, hk.2.2.1 hg.names⟩
theorem crash_fit {σ : PD} {m : Nat} (hg : σ.Good m) (hm : m ≤ 10000) (hr : σ.room = -1) (keep torn : Int) : (σ.crash keep torn).Fit ∧ ({ σ.crash keep torn with power := true } : PD).Fit := by
  have h1 := σ.crash_mass keep torn
  have h2 : (σ.crash keep torn).next = σ.next ∧ (σ.crash keep torn).room = σ.room := by unfold PD.crash; split <;> exact ⟨rfl, rfl⟩
  have hf : (σ.crash keep torn).Fit := ⟨by have := hg.mass; omega, by rw [h2.2, hr]; omega, by rw [h2.1]; exact hg.next0, by rw [h2.1]; have := hg.next1; omega⟩
  exact ⟨hf, ⟨hf.mass, hf.room, hf.next0, hf.next1⟩⟩
/-- Three ways to make the file sure. -/
structure Sure (lo : Nat) (w : World) (db : Nat) (nme : ByteArray) (σ : PD) : Prop where
  disk : IsD lo w db σ
  free : σ.Free
  good : σ.Good 30
  name : nm nme = true
  ne : bLoose ≠ nme
  got : get σ.files nme = some fAll
  small : nme.size ≤ 9223372036854775807
theorem ne_own : bLoose ≠ bOwn := by decide
theorem ne_other : bLoose ≠ bOther := by decide
theorem own2_good {σ : PD} {m : Nat} (hg : σ.Good m) (hf : σ.Free) : σ.own2.Good (m + 2) :=
  put_good (put_good hg hf.rises bOwn (bTen, true) (by decide)) (hf.put (s := bOwn) (bTen, true)).rises bOwn (bAbc, false) (by decide)
theorem sure_sync {lo : Nat} {W : World} {db : Nat} {τ : PD} (hD : IsD lo W db τ) (hf : τ.Free) (hg : τ.Good 22) {f : PF} (hget : get τ.files bOwn = some f) (hnow : f.now = bAll) :
    Calls Try.prog 9 #[.pointer (some ⟨db, 0, none⟩)] W fun e w' => e = .returned (.int .i64 0) ∧ (∃ σ, Sure lo w' db bOwn σ) ∧ Turned lo W w' := by
  obtain ⟨h1, h2⟩ := sync_told hf hget hnow
  refine (sync_d hD (hg.fit (by omega) (by rw [hf.room]; omega))).mono ?_
  rintro e w' ⟨he, hd, ht⟩
  have hs := (step_good hg hf.rises 5 bOwn bOwn bOwn 0).1
  rw [show τ.step 5 bOwn bOwn bOwn 0 = τ.sync by unfold PD.step; simp] at hs
  exact ⟨by rw [he, h1], ⟨_, hd, hf.sync, hs.more (by omega), nm_own, ne_own, h2, by decide⟩, ht⟩
theorem sure_move {lo : Nat} {W : World} {db : Nat} {τ : PD} (hD : IsD lo W db τ) (hf : τ.Free) (hg : τ.Good 22) {f : PF} (hget : get τ.files bOwn = some f) (hnow : f.now = bAll) :
    Calls Try.prog 10 #[.pointer (some ⟨db, 0, none⟩), .string bOwn, .string bOther] W fun e w' => e = .returned (.int .i64 0) ∧ (∃ σ, Sure lo w' db bOther σ) ∧ Turned lo W w' := by
  obtain ⟨h1, h2⟩ := move_told hf hget hnow
  refine (move_d hD (hg.fit (by omega) (by rw [hf.room]; omega)) bOwn bOther (by decide) (by decide)).mono ?_
  rintro e w' ⟨he, hd, ht⟩
  have hs := (step_good hg hf.rises 2 bOwn bOther bOwn 0).1
  rw [show τ.step 2 bOwn bOther bOwn 0 = τ.move bOwn bOther by unfold PD.step; simp] at hs
  exact ⟨by rw [he, h1], ⟨_, hd, hf.move _ _, hs.more (by omega), nm_other, ne_other, h2, by decide⟩, ht⟩
theorem sure_cut {lo : Nat} {W : World} {db : Nat} {τ : PD} (hD : IsD lo W db τ) (hf : τ.Free) (hg : τ.Good 22) {f : PF} (hget : get τ.files bOwn = some f) (hnow : f.now = bAll) :
    Calls Try.prog 11 #[.pointer (some ⟨db, 0, none⟩), .string bOwn, .int .i64 13] W fun e w' => e = .returned (.int .i64 0) ∧ (∃ σ, Sure lo w' db bOwn σ) ∧ Turned lo W w' := by
  obtain ⟨h1, h2⟩ := cut_told hf hget hnow
  refine (trunc_d hD (hg.fit (by omega) (by rw [hf.room]; omega)) bOwn (by decide) 13).mono ?_
  rintro e w' ⟨he, hd, ht⟩
  have hs := (step_good hg hf.rises 4 bOwn bOwn bOwn 13).1
  rw [show τ.step 4 bOwn bOwn bOwn 13 = τ.cut bOwn 13 false by unfold PD.step; simp] at hs
  exact ⟨by rw [he, h1], ⟨_, hd, hf.cut _ _ _, hs.more (by omega), nm_own, ne_own, h2, by decide⟩, ht⟩
theorem sure_append {lo : Nat} {W : World} {db : Nat} {nme : ByteArray} {σ : PD} (h : Sure lo W db nme σ) :
    Calls Try.prog 8 #[.pointer (some ⟨db, 0, none⟩), .string bLoose, .string bX] W fun e w' => e = .returned (.int .i64 0) ∧ IsD lo w' db (σ.put bLoose (bX, false)).1 ∧ Turned lo W w' := by
  rw [← (settled_stays h.free h.name h.ne h.got 0 0).1]
  exact append_d h.disk (h.good.fit (by omega) (by rw [h.free.room]; omega)) bLoose bX (by decide) (by decide)
theorem sure_good {lo : Nat} {W : World} {db : Nat} {nme : ByteArray} {σ : PD} (h : Sure lo W db nme σ) : (σ.put bLoose (bX, false)).1.Good 31 ∧ (σ.put bLoose (bX, false)).1.room = -1 :=
  ⟨put_good h.good h.free.rises bLoose (bX, false) (by decide), (h.free.put (s := bLoose) (bX, false)).room⟩
theorem sure_read {lo : Nat} {W W' : World} {db : Nat} {nme : ByteArray} {σ : PD} (h : Sure lo W db nme σ) (keep torn : Int) (hD : IsD lo W' db { (σ.put bLoose (bX, false)).1.crash keep torn with power := true }) :
    Calls Try.prog 14 #[.pointer (some ⟨db, 0, none⟩), .string nme] W' fun e w' => e = .returned (.tuple #[.string bAll, .int .i64 0]) ∧ Below W'.heap.size W' w' := by
  obtain ⟨hg, hr⟩ := sure_good h
  have h2 := read_d hD (crash_fit hg (by omega) hr keep torn).2 nme h.small
  rw [(settled_stays h.free h.name h.ne h.got keep torn).2] at h2
  exact h2
set_option maxHeartbeats 16000000 in
set_option maxRecDepth 100000 in
theorem settles_law (A : Option Addr) (c : Nat) (l : List Doing) (how att keep torn : Int) (w : World) (hr : Kd.C kDoing w A l.length l) (hc : l.length ≤ c) (hok : ∀ x ∈ l, x.nme.size ≤ maxLen ∧ x.tn.size ≤ maxLen ∧ x.s.size ≤ maxLen)
    (hk : -9223372036854775808 ≤ keep ∧ keep ≤ 9223372036854775807) (ht : -9223372036854775808 ≤ torn ∧ torn ≤ 9223372036854775807) :
    Calls Try.prog 3 #[.slice A l.length c, .int .i64 how, .agg #[.int .i64 att, .int .i64 keep, .int .i64 torn]] w fun e w' => e = .returned (.bool true) ∧ Below w.heap.size w w' := by
  obtain ⟨w1, hw1⟩ : ∃ w1, w.alloc (.cells #[.int .i64 att, .int .i64 keep, .int .i64 torn] 24) = w1 := ⟨_, rfl⟩
  have HB1 := Lib.hid (show Below w.heap.size w w1 by rw [← hw1]; exact (Below.refl _ _).alloc (Nat.le_refl _) _)
  have HF1 := Lib.hid (show w1.heap[w.heap.size]? = some (.cells #[.int .i64 att, .int .i64 keep, .int .i64 torn] 24 (0, 0)) by rw [← hw1]; exact alloc_at w _)
  have HR := Lib.hid hr
  have HKT := Lib.hid (And.intro hk ht)
  clear hr hk ht
  go_enter Try.func3, Try.ntmps3
  go_wp2_with fail
  refine (fresh_any (lo := w.heap.size) w1 HB1.out.size).mono ?_
  rintro e w2 ⟨db, rfl, hD2, hb2⟩
  clear hw1
  go_wp2_with fail
  have hb3 : Below w2.heap.size w2 (w2.alloc (.cells #[.pointer (some ⟨db, 0, none⟩), .slice none 0 0, .int .i64 (-1), .slice none 0 0, .int .i64 0, .bool false] 31)) := (Below.refl _ _).alloc (Nat.le_refl _) _
  have hx3 : (w2.alloc (.cells #[.pointer (some ⟨db, 0, none⟩), .slice none 0 0, .int .i64 (-1), .slice none 0 0, .int .i64 0, .bool false] 31)).heap[w2.heap.size]? = some (.cells #[.pointer (some ⟨db, 0, none⟩), .slice none 0 0, .int .i64 (-1), .slice none 0 0, .int .i64 0, .bool false] 31 (0, 0)) := alloc_at' w2 _
  generalize w2.alloc (.cells #[.pointer (some ⟨db, 0, none⟩), .slice none 0 0, .int .i64 (-1), .slice none 0 0, .int .i64 0, .bool false] 31) = w3 at hb3 hx3 ⊢
  have HD3 := Lib.hid (hD2.below hb3)
  have hb12 := HB1.out.trans (hb2.mono HB1.out.size)
  have HB3 := Lib.hid (hb12.trans (hb3.mono hb12.size))
  have HF3 := Lib.hid ((hb3.block _ (Nat.lt_of_lt_of_le (blk_lt HF1.out) hb2.size)).trans ((hb2.block _ (blk_lt HF1.out)).trans HF1.out))
  have hlo : w.heap.size ≤ w2.heap.size := hb12.size
  have hgf : w.heap.size < w2.heap.size := Nat.lt_of_lt_of_le (blk_lt HF1.out) hb2.size
  have HX3 := Lib.hid hx3
  clear hD2 hb2 hb3 hb12 hx3 HF1 HB1
  generalize w2.heap.size = g at HX3 hlo hgf ⊢
  go_loopw [8] (fun u8 wr => ∃ (i : Nat) (σ : PD) (vf : Value), i ≤ 20 ∧ i ≤ l.length ∧ u8 = .int .i64 i ∧ Hid (Law w.heap.size wr db g vf σ) ∧ Hid (σ.Good i ∧ σ.room = -1) ∧ Hid (wr.heap[w.heap.size]? = some (.cells #[.int .i64 att, .int .i64 keep, .int .i64 torn] 24 (0, 0))) ∧ Hid (Below w.heap.size w wr)) (fun u8 _ => 21 - (intOf u8).toNat)
  case atStart => exact ⟨0, ⟨[], -1, true, 0⟩, .slice none 0 0, by omega, by omega, rfl, Lib.hid ⟨HD3.out, Kd.R_nil _ _ _ _ _, HX3.out⟩, Lib.hid ⟨⟨Nat.le_refl 0, Int.le_refl 0, Int.le_refl 0, rfl, fun p hp => by cases hp⟩, rfl⟩, HF3, HB3⟩
  case round =>
    obtain ⟨i, σ, vf, hi, hil, rfl, HL, HG, HFl, HB⟩ := hrel
    clear HX3 HD3 HB3 HF3
    have HSz := Lib.hid (show 1 ≤ wr.heap.size from by have := blk_lt HL.out.box; omega)
    go_upto_region 3 with fail
    go_cut [24] from 17 to 24 (fun u24 wx => u24 = .bool (decide (i < l.length ∧ i < 20)) ∧ wr = wx)
    case first =>
      by_cases h1 : i < l.length
      · have d1 : decide ((i : Int) < (l.length : Int)) = true := decide_eq_true (by omega)
        by_cases h2 : i < 20
        · have d2 : decide ((i : Int) < 20) = true := decide_eq_true (by omega)
          have HZ := Lib.hid (show decide (i < l.length ∧ i < 20) = true from decide_eq_true ⟨h1, h2⟩)
          go_wp2_with fail
          go_meet
          exact ⟨by rw [HZ.out], rfl⟩
        · have d2 : decide ((i : Int) < 20) = false := decide_eq_false (by omega)
          have HZ := Lib.hid (show decide (i < l.length ∧ i < 20) = false from decide_eq_false (fun h => h2 h.2))
          go_wp2_with fail
          go_meet
          exact ⟨by rw [HZ.out], rfl⟩
      · have d1 : decide ((i : Int) < (l.length : Int)) = false := decide_eq_false (by omega)
        have HZ := Lib.hid (show decide (i < l.length ∧ i < 20) = false from decide_eq_false (fun h => h1 h.1))
        go_wp2_with fail
        go_meet
        exact ⟨by rw [HZ.out], rfl⟩
    case rest =>
      obtain ⟨rfl, hwc⟩ := hcut
      subst hwc
      by_cases hlt : i < l.length ∧ i < 20
      · rw [decide_eq_true hlt]
        obtain ⟨hlt2, hlt⟩ := hlt
        have p1 : (0 ≤ (i : Int)) = True := eq_true (by omega)
        have q1 : ((i : Int) < (l.length : Int)) = True := eq_true (by omega)
        obtain ⟨ad, rfl, x0, x1, x2, x3, x4, x5, x6, x7⟩ := at_Doing (Kd.C_below HR.out HB.out) i (by omega)
        have hdo : rdD l i ∈ l := by simp [rdD, List.getD, hlt2]
        generalize rdD l i = d at x0 x1 x2 x3 x4 x5 x6 x7 hdo
        have HDo := Lib.hid (hok d hdo)
        clear hdo
        by_cases hk0 : 0 ≤ d.k
        · by_cases hk6 : d.k < 6
          · obtain ⟨A5, c5, rfl⟩ := Kd.R_slice HL.out.doc
            obtain ⟨m5, hm5⟩ : ∃ m5, m5 = σ.files.length := ⟨_, rfl⟩
            have HX := Lib.hid (show wr.heap[g]? = some (.cells #[.pointer (some ⟨db, 0, none⟩), .slice A5 m5 c5, .int .i64 σ.room, .slice none 0 0, .int .i64 σ.next, .bool false] 31 (0, 0)) by rw [hm5]; exact HL.out.box)
            have HA := Lib.hid (show ∀ W, Below wr.heap.size wr W → Calls Try.prog 6 #[.agg #[.pointer (some ⟨db, 0, none⟩), .slice A5 m5 c5, .int .i64 σ.room, .slice none 0 0, .int .i64 σ.next, .bool false], .agg #[.int .i64 d.k, .string d.nme, .string d.tn, .string d.s, .int .i64 d.n, .int .i64 d.a1, .int .i64 d.a2, .int .i64 d.a3]] W fun e' w' => ∃ vf', e' = .returned (.tuple #[.agg (sv db vf' (σ.step d.k d.nme d.tn d.s d.n).1), .bool true]) ∧ IsD w.heap.size w' db (σ.step d.k d.nme d.tn d.s d.n).1 ∧ IsR w' vf' (σ.step d.k d.nme d.tn d.s d.n).1 ∧ Turned w.heap.size W w' from fun W hW => by
              rw [hm5]
              exact act_any d.k ⟨by omega, by omega⟩ σ (.slice A5 σ.files.length c5) db W (HL.out.disk.below hW) (IsR.below HL.out.doc hW) (HG.out.1.fit (by omega) (by rw [HG.out.2]; omega)) HG.out.1.power d.nme d.tn d.s d.n d.a1 d.a2 d.a3 HDo.out.1 HDo.out.2.1 HDo.out.2.2)
            have HS := Lib.hid (step_good HG.out.1 HL.out.disk.rises d.k d.nme d.tn d.s d.n)
            have HN := Lib.hid (show (σ.step d.k d.nme d.tn d.s d.n).1.room = -1 by rw [HS.out.2.2.1]; exact HG.out.2)
            have HS := Lib.hid HS.out.1
            generalize σ.step d.k d.nme d.tn d.s d.n = st at HA HS HN
            have z0 : wr.cell? ⟨g, 0, none⟩ = some (.pointer (some ⟨db, 0, none⟩)) := cell_in HX.out 0
            have z1 : wr.cell? ⟨g, 1, none⟩ = some (.slice A5 m5 c5) := cell_in HX.out 1
            have z2 : wr.cell? ⟨g, 2, none⟩ = some (.int .i64 σ.room) := cell_in HX.out 2
            have z3 : wr.cell? ⟨g, 3, none⟩ = some (.slice none 0 0) := cell_in HX.out 3
            have z4 : wr.cell? ⟨g, 4, none⟩ = some (.int .i64 σ.next) := cell_in HX.out 4
            have z5 : wr.cell? ⟨g, 5, none⟩ = some (.bool false) := cell_in HX.out 5
            clear hm5
            go_wp2_with fail
            go_region_with
              (first
                | (go_at_call 6; refine (HA.out _ (by first | exact below_drew (Below.refl _ _) | exact pw_below_drewN (Below.refl _ _) _)).mono ?_; rintro e' w5 ⟨vf', rfl, hD5, hR5, hT5⟩; obtain ⟨A6, c6, rfl⟩ := Kd.R_slice hR5; obtain ⟨m6, hm6⟩ : ∃ m6, m6 = st.1.files.length := ⟨_, rfl⟩; rw [← hm6]; rw [← hm6] at hR5; have HR5 := Lib.hid hR5; have HM6 := Lib.hid hm6; have HD5 := Lib.hid hD5; clear hR5 hm6 hD5; have hX5 : w5.heap[g]? = some (.cells #[.pointer (some ⟨db, 0, none⟩), .slice A5 m5 c5, .int .i64 σ.room, .slice none 0 0, .int .i64 σ.next, .bool false] 31 (0, 0)) := (by first | exact turned_drew HX.out (by decide) hT5); have hF5 : w5.heap[w.heap.size]? = some (.cells #[.int .i64 att, .int .i64 keep, .int .i64 torn] 24 (0, 0)) := (by first | exact turned_drew HFl.out (by decide) hT5); have HB5 := Lib.hid (show Below w.heap.size w w5 from by first | exact HB.out.drew.trans (hT5.low HB.out.size)); have u0 : w5.cell? ⟨g, 0, none⟩ = some (.pointer (some ⟨db, 0, none⟩)) := cell_in hX5 0; have u1 : w5.cell? ⟨g, 1, none⟩ = some (.slice A5 m5 c5) := cell_in hX5 1; have u2 : w5.cell? ⟨g, 2, none⟩ = some (.int .i64 σ.room) := cell_in hX5 2; have u3 : w5.cell? ⟨g, 3, none⟩ = some (.slice none 0 0) := cell_in hX5 3; have u4 : w5.cell? ⟨g, 4, none⟩ = some (.int .i64 σ.next) := cell_in hX5 4; have u5 : w5.cell? ⟨g, 5, none⟩ = some (.bool false) := cell_in hX5 5; have fz5 := free_in hX5; have HX5 := Lib.hid hX5; have HF5 := Lib.hid hF5; clear hX5 hF5 hT5))
            all_goals
              clear HL HX HA HB HFl x0 x1 x2 x3 x4 x5 x6 x7 z0 z1 z2 z3 z4 z5 u0 u1 u2 u3 u4 u5 fz5
              go_wp2_with fail
              go_roundw
              case rel => exact ⟨i + 1, st.1, .slice A6 m6 c6, by omega, by omega, by go_num, Lib.hid ⟨HD5.out.sets HX5.out (by decide) [(0, _), (1, _), (2, _), (3, _), (4, _), (5, _)], R_sets HR5.out HX5.out (by decide) [(0, _), (1, _), (2, _), (3, _), (4, _), (5, _)], by exact blk_set (blk_set (blk_set (blk_set (blk_set (blk_set HX5.out 0 _) 1 _) 2 _) 3 _) 4 _) 5 _⟩, Lib.hid ⟨HS.out, HN.out⟩, Lib.hid ((sets_other w5 g w.heap.size [(0, _), (1, _), (2, _), (3, _), (4, _), (5, _)] (by omega)).trans HF5.out), Lib.hid (below_sets HB5.out hlo [(0, _), (1, _), (2, _), (3, _), (4, _), (5, _)])⟩
              case measure => simp [intOf]; omega
          · go_wp2_with fail
            go_roundw
            case rel => exact ⟨i + 1, σ, vf, by omega, by omega, by go_num, HL, Lib.hid ⟨HG.out.1.more (by omega), HG.out.2⟩, HFl, HB⟩
            case measure => simp [intOf]; omega
        · go_wp2_with fail
          go_roundw
          case rel => exact ⟨i + 1, σ, vf, by omega, by omega, by go_num, HL, Lib.hid ⟨HG.out.1.more (by omega), HG.out.2⟩, HFl, HB⟩
          case measure => simp [intOf]; omega
      · rw [decide_eq_false hlt]
        have hF0 : σ.Free := ⟨HL.out.disk.rises, HG.out.1.power, HG.out.2⟩
        have hG := HG.out.1
        have hi6 : i ≤ 20 := hi
        obtain ⟨hT1, hT2⟩ := own2_told hF0
        have hf1 := hF0.put (s := bOwn) (bTen, true)
        have hg1 := put_good hG hF0.rises bOwn (bTen, true) (by decide)
        have HW := Lib.hid (show ∀ W, Below wr.heap.size wr W → Calls Try.prog 7 #[.pointer (some ⟨db, 0, none⟩), .string bOwn, .string bTen] W fun e w' => e = .returned (.int .i64 0) ∧ IsD w.heap.size w' db (σ.put bOwn (bTen, true)).1 ∧ Turned w.heap.size W w' from fun W hW => by
          rw [← hT1]
          exact write_d (HL.out.disk.below hW) (hG.fit (by omega) (by rw [HG.out.2]; omega)) bOwn bTen (by decide) (by decide))
        have HP2 := Lib.hid (show ∀ W, IsD w.heap.size W db (σ.put bOwn (bTen, true)).1 → Calls Try.prog 8 #[.pointer (some ⟨db, 0, none⟩), .string bOwn, .string bAbc] W fun e w' => e = .returned (.int .i64 0) ∧ IsD w.heap.size w' db σ.own2 ∧ Turned w.heap.size W w' from fun W hW => by
          rw [← hT2]
          exact append_d hW (hg1.fit (by omega) (by rw [hf1.room]; omega)) bOwn bAbc (by decide) (by decide))
        have HOwn := Lib.hid (And.intro (own2_free hF0) (And.intro ((own2_good hG hF0).more (k := 22) (by omega)) (own2_get hF0)))
        generalize (σ.put bOwn (bTen, true)).1 = τ1 at HW HP2
        generalize σ.own2 = τ at HP2 HOwn
        have HX := Lib.hid HL.out.box
        clear hF0 hG hT1 hT2 hf1 hg1 HL HG hlt
        have z0 : wr.cell? ⟨g, 0, none⟩ = some (.pointer (some ⟨db, 0, none⟩)) := cell_in HX.out 0
        have z0d : wr.drew.cell? ⟨g, 0, none⟩ = some (.pointer (some ⟨db, 0, none⟩)) := z0
        go_wp2_with fail
        go_region_held3 (fun w' => w'.cell? ⟨g, 0, none⟩ = some (.pointer (some ⟨db, 0, none⟩)))
          (first
            | with_reducible exact z0d
            | with_reducible exact z04
            | with_reducible exact z05)
          (first
            | (go_at_call 7; refine (HW.out _ (by first | exact below_drew (Below.refl _ _) | exact pw_below_drewN (Below.refl _ _) _)).mono ?_; rintro e' w4 ⟨rfl, hD4, hT4⟩; have hX4 := turned_drew HX.out (by decide) hT4; have hF4 := turned_drew HFl.out (by decide) hT4; have hB4 : Below w.heap.size w w4 := HB.out.drew.trans (hT4.low HB.out.size); have z04 : w4.cell? ⟨g, 0, none⟩ = some (.pointer (some ⟨db, 0, none⟩)) := cell_in hX4 0)
            | (go_at_call 8; refine (HP2.out _ hD4).mono ?_; rintro e' w5 ⟨rfl, hD5, hT5⟩; have hX5 := turned_block hX4 (by decide) hT5; have hF5 := turned_block hF4 (by decide) hT5; have hB5 : Below w.heap.size w w5 := hB4.trans (hT5.low hB4.size); have z05 : w5.cell? ⟨g, 0, none⟩ = some (.pointer (some ⟨db, 0, none⟩)) := cell_in hX5 0))
        obtain ⟨hf, hgd, f, hget, hnow⟩ := HOwn.out
        have HSy := Lib.hid (sure_sync hD5 hf hgd hget hnow)
        have HMv := Lib.hid (sure_move hD5 hf hgd hget hnow)
        have HCt := Lib.hid (sure_cut hD5 hf hgd hget hnow)
        have HX5 := Lib.hid hX5
        have HF5 := Lib.hid hF5
        have HB5 := Lib.hid hB5
        clear hf hgd hget hnow hX5 hF5 hB5 hD5 hD4 hT4 hT5 hX4 hF4 hB4 z04 z0 z0d HW HP2 HOwn HX HFl HB
        have hq := bits_3 how
        generalize hqq : bits BinOp.and IntKind.i64 how 3 = q at hq
        have HQ := Lib.hid hqq
        clear hqq
        have hq2 : bits BinOp.and IntKind.i64 how 3 = q := HQ.out
        by_cases h0 : q = 0
        · have c0 : decide (q = 0) = true := decide_eq_true h0
          go_wp2_with fail
          refine HSy.out.mono ?_
          rintro e w6 ⟨rfl, ⟨σ6, hS6⟩, hT6⟩
          have HX6 := Lib.hid (turned_block HX5.out (by decide) hT6)
          have HF6 := Lib.hid (turned_block HF5.out (by decide) hT6)
          have HB6 := Lib.hid (HB5.out.trans (hT6.low HB5.out.size))
          have HS6 := Lib.hid hS6
          clear hS6 hT6 z05
          have z06 : w6.cell? ⟨g, 0, none⟩ = some (.pointer (some ⟨db, 0, none⟩)) := cell_in HX6.out 0
          go_wp2_with fail
          refine (sure_append HS6.out).mono ?_
          rintro e w7 ⟨rfl, hD7, hT7⟩
          have HX7 := Lib.hid (turned_block HX6.out (by decide) hT7)
          have HF7 := Lib.hid (turned_block HF6.out (by decide) hT7)
          have HB7 := Lib.hid (HB6.out.trans (hT7.low HB6.out.size))
          have HD7 := Lib.hid hD7
          have HC7 := Lib.hid (crash_fit (sure_good HS6.out).1 (by omega) (sure_good HS6.out).2 keep torn)
          have HG7 := Lib.hid ((sure_good HS6.out).1.fit (by omega) (by rw [(sure_good HS6.out).2]; omega))
          have HRd := Lib.hid (fun W' (hD : IsD w.heap.size W' db { (σ6.put bLoose (bX, false)).1.crash keep torn with power := true }) => sure_read HS6.out keep torn hD)
          generalize (σ6.put bLoose (bX, false)).1 = σ7 at HD7 HC7 HG7 HRd
          clear hD7 hT7 z06 HS6
          have z07 : w7.cell? ⟨g, 0, none⟩ = some (.pointer (some ⟨db, 0, none⟩)) := cell_in HX7.out 0
          have f1 : w7.cell? ⟨w.heap.size, 1, none⟩ = some (.int .i64 keep) := cell_in HF7.out 1
          have f2 : w7.cell? ⟨w.heap.size, 2, none⟩ = some (.int .i64 torn) := cell_in HF7.out 2
          go_wp2_with fail
          refine (crash_d HD7.out HG7.out HKT.out.1 HKT.out.2).mono ?_
          rintro e w8 ⟨rfl, hD8, hT8⟩
          have HX8 := Lib.hid (turned_block HX7.out (by decide) hT8)
          have HB8 := Lib.hid (HB7.out.trans (hT8.low HB7.out.size))
          have HD8 := Lib.hid hD8
          clear hD8 hT8 z07 f1 f2
          have z08 : w8.cell? ⟨g, 0, none⟩ = some (.pointer (some ⟨db, 0, none⟩)) := cell_in HX8.out 0
          go_wp2_with fail
          refine (up_d HD8.out).mono ?_
          rintro e w9 ⟨rfl, hD9, hT9⟩
          have HX9 := Lib.hid (turned_block HX8.out (by decide) hT9)
          have HB9 := Lib.hid (HB8.out.trans (hT9.low HB8.out.size))
          have HD9 := Lib.hid hD9
          clear hD9 hT9 z08
          have z09 : w9.cell? ⟨g, 0, none⟩ = some (.pointer (some ⟨db, 0, none⟩)) := cell_in HX9.out 0
          go_wp2_with fail
          refine (HRd.out _ HD9.out).mono ?_
          rintro e w10 ⟨rfl, hb10⟩
          have HB10 := Lib.hid (HB9.out.trans (hb10.mono HB9.out.size))
          have hs10 : 1 ≤ w10.heap.size := by have := HB10.out.size; have := blk_lt HX9.out; have := hb10.size; omega
          clear hb10 z09
          go_wp2_with fail
          refine (awake_any w10 hs10).mono ?_
          rintro e w11 ⟨rfl, hb11⟩
          have hall : bAll = ⟨#[48, 49, 50, 51, 52, 53, 54, 55, 56, 57, 97, 98, 99]⟩ := rfl
          go_wp2_with fail
          go_ret
          exact ⟨rfl, HB10.out.trans (hb11.mono HB10.out.size)⟩
        · have c0 : decide (q = 0) = false := decide_eq_false h0
          by_cases h1 : q = 1
          · have c1 : decide (q = 1) = true := decide_eq_true h1
            go_wp2_with fail
            refine HMv.out.mono ?_
            rintro e w6 ⟨rfl, ⟨σ6, hS6⟩, hT6⟩
            have HX6 := Lib.hid (turned_block HX5.out (by decide) hT6)
            have HF6 := Lib.hid (turned_block HF5.out (by decide) hT6)
            have HB6 := Lib.hid (HB5.out.trans (hT6.low HB5.out.size))
            have HS6 := Lib.hid hS6
            clear hS6 hT6 z05
            have z06 : w6.cell? ⟨g, 0, none⟩ = some (.pointer (some ⟨db, 0, none⟩)) := cell_in HX6.out 0
            go_wp2_with fail
            refine (sure_append HS6.out).mono ?_
            rintro e w7 ⟨rfl, hD7, hT7⟩
            have HX7 := Lib.hid (turned_block HX6.out (by decide) hT7)
            have HF7 := Lib.hid (turned_block HF6.out (by decide) hT7)
            have HB7 := Lib.hid (HB6.out.trans (hT7.low HB6.out.size))
            have HD7 := Lib.hid hD7
            have HC7 := Lib.hid (crash_fit (sure_good HS6.out).1 (by omega) (sure_good HS6.out).2 keep torn)
            have HG7 := Lib.hid ((sure_good HS6.out).1.fit (by omega) (by rw [(sure_good HS6.out).2]; omega))
            have HRd := Lib.hid (fun W' (hD : IsD w.heap.size W' db { (σ6.put bLoose (bX, false)).1.crash keep torn with power := true }) => sure_read HS6.out keep torn hD)
            generalize (σ6.put bLoose (bX, false)).1 = σ7 at HD7 HC7 HG7 HRd
            clear hD7 hT7 z06 HS6
            have z07 : w7.cell? ⟨g, 0, none⟩ = some (.pointer (some ⟨db, 0, none⟩)) := cell_in HX7.out 0
            have f1 : w7.cell? ⟨w.heap.size, 1, none⟩ = some (.int .i64 keep) := cell_in HF7.out 1
            have f2 : w7.cell? ⟨w.heap.size, 2, none⟩ = some (.int .i64 torn) := cell_in HF7.out 2
            go_wp2_with fail
            refine (crash_d HD7.out HG7.out HKT.out.1 HKT.out.2).mono ?_
            rintro e w8 ⟨rfl, hD8, hT8⟩
            have HX8 := Lib.hid (turned_block HX7.out (by decide) hT8)
            have HB8 := Lib.hid (HB7.out.trans (hT8.low HB7.out.size))
            have HD8 := Lib.hid hD8
            clear hD8 hT8 z07 f1 f2
            have z08 : w8.cell? ⟨g, 0, none⟩ = some (.pointer (some ⟨db, 0, none⟩)) := cell_in HX8.out 0
            go_wp2_with fail
            refine (up_d HD8.out).mono ?_
            rintro e w9 ⟨rfl, hD9, hT9⟩
            have HX9 := Lib.hid (turned_block HX8.out (by decide) hT9)
            have HB9 := Lib.hid (HB8.out.trans (hT9.low HB8.out.size))
            have HD9 := Lib.hid hD9
            clear hD9 hT9 z08
            have z09 : w9.cell? ⟨g, 0, none⟩ = some (.pointer (some ⟨db, 0, none⟩)) := cell_in HX9.out 0
            go_wp2_with fail
            refine (HRd.out _ HD9.out).mono ?_
            rintro e w10 ⟨rfl, hb10⟩
            have HB10 := Lib.hid (HB9.out.trans (hb10.mono HB9.out.size))
            have hs10 : 1 ≤ w10.heap.size := by have := HB10.out.size; have := blk_lt HX9.out; have := hb10.size; omega
            clear hb10 z09
            go_wp2_with fail
            refine (awake_any w10 hs10).mono ?_
            rintro e w11 ⟨rfl, hb11⟩
            have hall : bAll = ⟨#[48, 49, 50, 51, 52, 53, 54, 55, 56, 57, 97, 98, 99]⟩ := rfl
            go_wp2_with fail
            go_ret
            exact ⟨rfl, HB10.out.trans (hb11.mono HB10.out.size)⟩
          · have c1 : decide (q = 1) = false := decide_eq_false h1
            go_wp2_with fail
            refine HCt.out.mono ?_
            rintro e w6 ⟨rfl, ⟨σ6, hS6⟩, hT6⟩
            have HX6 := Lib.hid (turned_block HX5.out (by decide) hT6)
            have HF6 := Lib.hid (turned_block HF5.out (by decide) hT6)
            have HB6 := Lib.hid (HB5.out.trans (hT6.low HB5.out.size))
            have HS6 := Lib.hid hS6
            clear hS6 hT6 z05
            have z06 : w6.cell? ⟨g, 0, none⟩ = some (.pointer (some ⟨db, 0, none⟩)) := cell_in HX6.out 0
            go_wp2_with fail
            refine (sure_append HS6.out).mono ?_
            rintro e w7 ⟨rfl, hD7, hT7⟩
            have HX7 := Lib.hid (turned_block HX6.out (by decide) hT7)
            have HF7 := Lib.hid (turned_block HF6.out (by decide) hT7)
            have HB7 := Lib.hid (HB6.out.trans (hT7.low HB6.out.size))
            have HD7 := Lib.hid hD7
            have HC7 := Lib.hid (crash_fit (sure_good HS6.out).1 (by omega) (sure_good HS6.out).2 keep torn)
            have HG7 := Lib.hid ((sure_good HS6.out).1.fit (by omega) (by rw [(sure_good HS6.out).2]; omega))
            have HRd := Lib.hid (fun W' (hD : IsD w.heap.size W' db { (σ6.put bLoose (bX, false)).1.crash keep torn with power := true }) => sure_read HS6.out keep torn hD)
            generalize (σ6.put bLoose (bX, false)).1 = σ7 at HD7 HC7 HG7 HRd
            clear hD7 hT7 z06 HS6
            have z07 : w7.cell? ⟨g, 0, none⟩ = some (.pointer (some ⟨db, 0, none⟩)) := cell_in HX7.out 0
            have f1 : w7.cell? ⟨w.heap.size, 1, none⟩ = some (.int .i64 keep) := cell_in HF7.out 1
            have f2 : w7.cell? ⟨w.heap.size, 2, none⟩ = some (.int .i64 torn) := cell_in HF7.out 2
            go_wp2_with fail
            refine (crash_d HD7.out HG7.out HKT.out.1 HKT.out.2).mono ?_
            rintro e w8 ⟨rfl, hD8, hT8⟩
            have HX8 := Lib.hid (turned_block HX7.out (by decide) hT8)
            have HB8 := Lib.hid (HB7.out.trans (hT8.low HB7.out.size))
            have HD8 := Lib.hid hD8
            clear hD8 hT8 z07 f1 f2
            have z08 : w8.cell? ⟨g, 0, none⟩ = some (.pointer (some ⟨db, 0, none⟩)) := cell_in HX8.out 0
            go_wp2_with fail
            refine (up_d HD8.out).mono ?_
            rintro e w9 ⟨rfl, hD9, hT9⟩
            have HX9 := Lib.hid (turned_block HX8.out (by decide) hT9)
            have HB9 := Lib.hid (HB8.out.trans (hT9.low HB8.out.size))
            have HD9 := Lib.hid hD9
            clear hD9 hT9 z08
            have z09 : w9.cell? ⟨g, 0, none⟩ = some (.pointer (some ⟨db, 0, none⟩)) := cell_in HX9.out 0
            go_wp2_with fail
            refine (HRd.out _ HD9.out).mono ?_
            rintro e w10 ⟨rfl, hb10⟩
            have HB10 := Lib.hid (HB9.out.trans (hb10.mono HB9.out.size))
            have hs10 : 1 ≤ w10.heap.size := by have := HB10.out.size; have := blk_lt HX9.out; have := hb10.size; omega
            clear hb10 z09
            go_wp2_with fail
            refine (awake_any w10 hs10).mono ?_
            rintro e w11 ⟨rfl, hb11⟩
            have hall : bAll = ⟨#[48, 49, 50, 51, 52, 53, 54, 55, 56, 57, 97, 98, 99]⟩ := rfl
            go_wp2_with fail
            go_ret
            exact ⟨rfl, HB10.out.trans (hb11.mono HB10.out.size)⟩
end Go.Proofs.YtcongfiojbajeaaK
namespace Go.Proofs.Ytcongfiojbajeaa.diskSettles
open Go.ChangeShapes Go.WideShapes Go.ChangeAt Go.RowKit Go.Proofs.YtcongfiojbajeaaW.PrintWords
open Go.ChangeMaps (open_string shut_string)
set_option linter.unusedVariables false
set_option linter.unusedSimpArgs false
theorem own : ownKnob Try.prog.godebug = none := by kernel_rfl
theorem laidOut : laidOutB Try.prog = true := by kernel_rfl
theorem opens0 : Go.Proofs.YtcongfiojbajeaaO.Opens Try.prog 22 (Kd.slice 34 Go.Proofs.YtcongfiojbajeaaK.kDoing) (fun l => l.length ≤ maxLen ∧ ∀ x ∈ l, x.nme.size ≤ maxLen ∧ x.tn.size ≤ maxLen ∧ x.s.size ≤ maxLen) := Go.Proofs.YtcongfiojbajeaaO.opens_slice Try.underlying22 (by kernel_rfl) Go.Proofs.YtcongfiojbajeaaK.opens_doing
set_option maxRecDepth 100000 in
theorem flat2 : ∀ (H : Type) (enc : TypeId × Value → H) (w : World) (base : Nat) (spare : Nat → Bool) (held : Bool) (fuel : Nat) (cs : List Value) (x : DataW H × List MemPlace), DataW.trod enc Try.prog w base spare held fuel 24 cs = some x → ∃ (a2_0 : Int) (a2_1 : Int) (a2_2 : Int), cs = [.int .i64 a2_0, .int .i64 a2_1, .int .i64 a2_2] ∧ (Lit.int .i64 a2_0).wf = true ∧ (Lit.int .i64 a2_1).wf = true ∧ (Lit.int .i64 a2_2).wf = true := by
  intro H enc w base spare held fuel cs x h
  have z_0 : Try.prog.cellsOf 3 = 1 := by kernel_rfl
  have z_1 : Try.prog.cellsOf 24 = 3 := by kernel_rfl
  obtain ⟨sx, sn, _, _, sl, sk, sf⟩ := DataW.trod_struct Try.underlying24 h
  rw [z_1] at sl
  match cs, sl with
  | [c0, c1, c2], _ =>
    match sx, sk with
    | [sx0, sx1, sx2], _ =>
      have sh0 := sf 0 _ rfl
      have sh1 := sf 1 _ rfl
      have sh2 := sf 2 _ rfl
      simp only [z_0, z_1, List.drop_zero, List.drop_succ_cons, List.take_succ_cons, List.take_zero, List.getElem?_cons_zero, List.getElem?_cons_succ] at sh0 sh1 sh2
      obtain ⟨a2_0, e0, _, w0⟩ := DataW.trod_int Try.underlying3 sh0
      obtain ⟨a2_1, e1, _, w1⟩ := DataW.trod_int Try.underlying3 sh1
      obtain ⟨a2_2, e2, _, w2⟩ := DataW.trod_int Try.underlying3 sh2
      cases e0; cases e1; cases e2
      exact ⟨a2_0, a2_1, a2_2, rfl, w0, w1, w2⟩
set_option maxRecDepth 100000 in
theorem lifted (os : Os) (started : os.Started) (H : Type) (enc : TypeId × Value → H) :
    ReturnsInHanded {} Try.checked os 3 .any (Rows.diskSettlesSpec.pre6 enc Try.prog Try.f3 Rows.diskSettlesRow.domain false) (Rows.diskSettlesSpec.post enc Try.prog Try.f3 false true false false) := by
  refine returnsInHanded_of_change_sized (C := Try.checked) own started (by kernel_rfl) Try.func3
    (ChangeSpec.witness6 (enc := enc) (C := Try.checked) false ⟨#[], #[.slice none 0 0, .int .i64 0, .agg #[.int .i64 0, .int .i64 0, .int .i64 0]], []⟩ 8 (by kernel_rfl) (by kernel_rfl) (by kernel_rfl) (by kernel_rfl)) ?_
  intro W base args ds gs before hval0 hW hcnd hsz0 _
  have hsz : (DataW.weightsEach Try.prog (Try.f3.params.toList ++ Rows.diskSettlesSpec.plain.varTypes Try.prog) (ds ++ gs)).all (· ≤ reachBytes) = true := hsz0
  have hval : ∀ (j : Nat) t v, Try.f3.params[j]? = some t → args[j]? = some v → Value.okWide Try.prog W .any base t v := hval0
  have hW' := hW
  obtain ⟨p, q, hA0, hV, rfl, hfz, hnd⟩ := hW
  have hA : DataW.TrodAll enc Try.prog W 0 (fun _ => true) true Try.f3.params.toList args.toList ds p := hA0
  rw [Try.params3] at hA hval hsz
  obtain ⟨v0, vs0, d0, ds0, p0, q0, hargs, rfl, rfl, h0, r0⟩ := trodAll_cons hA
  obtain ⟨v1, vs1, d1, ds1, p1, q1, rfl, rfl, rfl, h1, r1⟩ := trodAll_cons r0
  obtain ⟨v2, vs2, d2, ds2, p2, q2, rfl, rfl, rfl, h2, r2⟩ := trodAll_cons r1
  obtain ⟨rfl, rfl, rfl⟩ := trodAll_nil r2
  obtain rfl : args = #[v0, v1, v2] := by cases args; simp_all
  obtain ⟨rfl, rfl⟩ := trodVars_none hV
  obtain ⟨a0, len0, cap0, rfl⟩ := okWide_slice Try.underlying22 (hval 0 22 v0 rfl rfl)
  have k0 := h0
  have lt0 : ∀ x ∈ p0, x.block < W.heap.size := by obtain ⟨m, hm⟩ := k0; exact DataW.trod_lt m _ _ _ hm
  obtain ⟨l0, ⟨A0, c0, e0, hc0, hr0⟩, ok0⟩ := (fun (z : DataW.Trod enc Try.prog W 0 (fun _ => true) true 22 (.slice a0 len0 cap0) d0 p0) => by obtain ⟨fuel, hf⟩ := z; exact opens0 H enc W 0 _ true fuel _ _ hf : _ → ∃ l, (Kd.slice 34 Go.Proofs.YtcongfiojbajeaaK.kDoing).K W l [.slice a0 len0 cap0] ∧ (fun l => l.length ≤ maxLen ∧ ∀ x ∈ l, x.nme.size ≤ maxLen ∧ x.tn.size ≤ maxLen ∧ x.s.size ≤ maxLen) l) h0
  simp only [List.cons.injEq, Value.slice.injEq, and_true] at e0
  obtain ⟨rfl, rfl, rfl⟩ := e0
  obtain ⟨a1, rfl, rfl, rfl, w1⟩ := open_int Try.underlying3 (hval 1 3 v1 rfl rfl) h1
  have k2 := h2
  have lt2 : ∀ x ∈ p2, x.block < W.heap.size := by obtain ⟨m, hm⟩ := k2; exact DataW.trod_lt m _ _ _ hm
  obtain ⟨cs2, rfl, _⟩ := okWide_struct Try.underlying24 (hval 2 24 v2 rfl rfl)
  obtain ⟨a2_0, a2_1, a2_2, e2, ok2⟩ := (fun (z : DataW.Trod enc Try.prog W 0 (fun _ => true) true 24 (.agg cs2) d2 p2) => by obtain ⟨fuel, hf⟩ := z; exact flat2 H enc W 0 _ true fuel _ _ hf : _ → ∃ (a2_0 : Int) (a2_1 : Int) (a2_2 : Int), cs2.toList = [.int .i64 a2_0, .int .i64 a2_1, .int .i64 a2_2] ∧ (Lit.int .i64 a2_0).wf = true ∧ (Lit.int .i64 a2_1).wf = true ∧ (Lit.int .i64 a2_2).wf = true) h2
  obtain rfl : cs2 = #[.int .i64 a2_0, .int .i64 a2_1, .int .i64 a2_2] := Array.ext' e2
  clear hA0 hval0 hsz0 hsz
  refine ((fun (A : Option Addr) (c : Nat) (l : List Go.Proofs.YtcongfiojbajeaaK.Doing) (how att keep torn : Int) (W : World) (hr : Kd.C Go.Proofs.YtcongfiojbajeaaK.kDoing W A l.length l) (hc : l.length ≤ c) (ok : l.length ≤ maxLen ∧ ∀ x ∈ l, x.nme.size ≤ maxLen ∧ x.tn.size ≤ maxLen ∧ x.s.size ≤ maxLen) _ (okf : (Lit.int .i64 att).wf = true ∧ (Lit.int .i64 keep).wf = true ∧ (Lit.int .i64 torn).wf = true) => Go.Proofs.YtcongfiojbajeaaK.settles_law A c l how att keep torn W hr hc ok.2 (by have h := (Lit.wf_int_iff _ _).1 okf.2.1; rw [IntKind.min_i64, IntKind.max_i64] at h; exact h) (by have h := (Lit.wf_int_iff _ _).1 okf.2.2; rw [IntKind.min_i64, IntKind.max_i64] at h; exact h)) _ _ l0 a1 a2_0 a2_1 a2_2 W hr0 hc0 ok0 w1 ok2).mono fun e W' ⟨he, bel⟩ => ?_
  subst he
  exact ⟨_, rfl, _, _, _, [], _, [], hW', trodAll_mk1 (shut_bool Try.underlying4 _), (trodAll_cons_mk (Below.trod laidOut (by kernel_rfl) (of_decide_eq_true (by kernel_rfl)) k0 bel lt0) (trodAll_cons_mk (shut_int Try.underlying3 w1) (trodAll_cons_mk (Below.trod laidOut (by kernel_rfl) (of_decide_eq_true (by kernel_rfl)) k2 bel lt2) trodAll_mk0))), rfl, bel.frame _, fun h => by cases h⟩
theorem over : Rows.diskSettlesRow.holds Try.pinned (OpenSpec.ofChange Rows.diskSettlesSpec) :=
  OpenClaim.holds_of_wide 3 Try.f3 rfl rfl rfl rfl rfl rfl rfl ⟨rfl, rfl, rfl, rfl, rfl⟩ rfl rfl rfl rfl rfl (by kernel_rfl) Try.func3 (by kernel_rfl)
    (of_decide_eq_true (by kernel_rfl)) (by unfold Func.isWrapper; first | (rw [if_pos (by decide +kernel)]; kernel_rfl) | (rw [if_neg (by decide +kernel)]; exact ⟨rfl, rfl⟩))
    (fun os started H enc _ => lifted os started H enc)
theorem proved : Rows.DiskSettlesSaid := over
#print axioms proved
end Go.Proofs.Ytcongfiojbajeaa.diskSettles
namespace Go.Proofs.Ytcongfiojbajeaa
/-- The row, under a short name, for the claim. -/
theorem diskSettles_holds : Rows.DiskSettlesSaid := diskSettles.proved
end Go.Proofs.Ytcongfiojbajeaa
