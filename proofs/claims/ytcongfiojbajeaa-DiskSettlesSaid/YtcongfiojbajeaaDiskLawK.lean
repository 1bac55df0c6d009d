/- The law DiskLimits: the walk: of any acts what does not fit is refused, and the disk is as the document has it. -/
import Derived.Test.YtcongfiojbajeaaDiskLawI
import Derived.Test.YtcongfiojbajeaaDAwake
import Derived.Test.YtcongfiojbajeaaOpen
namespace Go.Proofs.YtcongfiojbajeaaK
open Go Go.RowKit Go.Maps Go.Proofs.YtcongfiojbajeaaM Go.Proofs.YtcongfiojbajeaaW.PrintWords Go.Proofs.YtcongfiojbajeaaN
set_option linter.unusedVariables false
set_option linter.unusedSimpArgs false
/-- Something that is done. -/
structure Doing where
  k : Int
  nme : ByteArray
  tn : ByteArray
  s : ByteArray
  n : Int
  a1 : Int
  a2 : Int
  a3 : Int
def zDoing : Doing := ⟨0, ⟨#[]⟩, ⟨#[]⟩, ⟨#[]⟩, 0, 0, 0, 0⟩
def kDoing : Kd Doing := Kd.iso (Kd.pair (Kd.int .i64) (Kd.pair Kd.string (Kd.pair Kd.string (Kd.pair Kd.string (Kd.pair (Kd.int .i64) (Kd.pair (Kd.int .i64) (Kd.pair (Kd.int .i64) (Kd.int .i64)))))))) (fun x : Doing => (x.k, x.nme, x.tn, x.s, x.n, x.a1, x.a2, x.a3))
theorem kDoing_open {w : World} {x : Doing} {cs : List Value} (h : kDoing.K w x cs) : cs = [.int .i64 x.k, .string x.nme, .string x.tn, .string x.s, .int .i64 x.n, .int .i64 x.a1, .int .i64 x.a2, .int .i64 x.a3] := by
  obtain ⟨_, _, rfl, rfl, _, _, rfl, rfl, _, _, rfl, rfl, _, _, rfl, rfl, _, _, rfl, rfl, _, _, rfl, rfl, _, _, rfl, rfl, rfl⟩ := h
  exact rfl
def rdD (xs : List Doing) (i : Nat) : Doing := xs.getD i zDoing
theorem at_Doing {w : World} {A : Option Addr} {n : Nat} {xs : List Doing} (h : Kd.C kDoing w A n xs) (i : Nat) (h1 : i < n) :
    ∃ ad, A = some ad ∧ w.cell? (ad.add (i * 8)) = some (.int .i64 (rdD xs i).k) ∧ w.cell? ⟨(ad.add (i * 8)).block, (ad.add (i * 8)).off + 1, none⟩ = some (.string (rdD xs i).nme) ∧
      w.cell? ⟨(ad.add (i * 8)).block, (ad.add (i * 8)).off + 2, none⟩ = some (.string (rdD xs i).tn) ∧ w.cell? ⟨(ad.add (i * 8)).block, (ad.add (i * 8)).off + 3, none⟩ = some (.string (rdD xs i).s) ∧
      w.cell? ⟨(ad.add (i * 8)).block, (ad.add (i * 8)).off + 4, none⟩ = some (.int .i64 (rdD xs i).n) ∧ w.cell? ⟨(ad.add (i * 8)).block, (ad.add (i * 8)).off + 5, none⟩ = some (.int .i64 (rdD xs i).a1) ∧
      w.cell? ⟨(ad.add (i * 8)).block, (ad.add (i * 8)).off + 6, none⟩ = some (.int .i64 (rdD xs i).a2) ∧ w.cell? ⟨(ad.add (i * 8)).block, (ad.add (i * 8)).off + 7, none⟩ = some (.int .i64 (rdD xs i).a3) := by
  obtain ⟨ad, c, e, _, hK, hc0⟩ := Kd.C_get h zDoing i (by omega) (by omega)
  have hc : ∀ j u, c[j]? = some u → w.cell? (ad.add (i * 8 + j)) = some u := hc0
  obtain rfl := kDoing_open hK
  exact ⟨ad, e, hc 0 _ rfl, by rw [← add_field _ _ 1 (by omega)]; exact hc 1 _ rfl, by rw [← add_field _ _ 2 (by omega)]; exact hc 2 _ rfl, by rw [← add_field _ _ 3 (by omega)]; exact hc 3 _ rfl, by rw [← add_field _ _ 4 (by omega)]; exact hc 4 _ rfl, by rw [← add_field _ _ 5 (by omega)]; exact hc 5 _ rfl, by rw [← add_field _ _ 6 (by omega)]; exact hc 6 _ rfl, by rw [← add_field _ _ 7 (by omega)]; exact hc 7 _ rfl⟩
theorem cell_alloc {W : World} {a : Addr} {v : Value} {o : Obj} (h : W.cell? a = some v) : (W.alloc o).cell? a = some v := pw_cell_below ((Below.refl _ W).alloc (Nat.le_refl _) o) h
theorem cell_alloc_drew {W : World} {a : Addr} {v : Value} {o : Obj} (h : W.cell? a = some v) : (W.alloc o).drew.cell? a = some v := pw_cell_below ((Below.refl _ W).alloc (Nat.le_refl _) o) h
theorem below_alloc {n : Nat} {w W : World} (h : Below n w W) (o : Obj) (hn : n ≤ w.heap.size := by first | exact Nat.le_refl _ | omega) : Below n w (W.alloc o) := h.alloc (Nat.le_trans hn h.size) o
theorem alloc_block {W : World} {g : Nat} {x o : Obj} (h : W.heap[g]? = some x) : (W.alloc o).heap[g]? = some x := (Below.heap_alloc W o g (by rcases Nat.lt_or_ge g W.heap.size with h1 | h1; exact h1; rw [Array.getElem?_eq_none h1] at h; cases h)).trans h
theorem turned_drew {lo : Nat} {w w' : World} {g t : Nat} {cells : Array Value} (hg : w.heap[g]? = some (.cells cells t (0, 0))) (ht : t ≠ 61 ∧ t ≠ 69 ∧ t ≠ 58) (hT : Turned lo w.drew w') : w'.heap[g]? = some (.cells cells t (0, 0)) := turned_block (w := w.drew) hg ht hT
theorem pw_cell_low {w w' : World} {a : Addr} {v : Value} (hb : Below w.heap.size w w') (h : w.cell? a = some v) : w'.cell? a = some v := pw_cell_below hb h
theorem cell_set06 {W : World} {p : Addr} {g : Nat} {v a b c d e f : Value} (h : W.cell? p = some v) (hne : p.block ≠ g) : ((((((W.setCell ⟨g, 0, none⟩ a).setCell ⟨g, 1, none⟩ b).setCell ⟨g, 2, none⟩ c).setCell ⟨g, 3, none⟩ d).setCell ⟨g, 4, none⟩ e).setCell ⟨g, 5, none⟩ f).cell? p = some v := by
  obtain ⟨k, j, sp⟩ := p
  exact cell_sets g [(0, a), (1, b), (2, c), (3, d), (4, e), (5, f)] h hne
/-- The law's state: the disk, the document, the box of both. -/
structure Law (lo : Nat) (w : World) (db g : Nat) (vf : Value) (σ : PD) : Prop where
  disk : IsD lo w db σ
  doc : IsR w vf σ
  box : w.heap[g]? = some (.cells (sv db vf σ) 31 (0, 0))
theorem Turned.low {lo : Nat} {w w' : World} (h : Turned lo w w') (hlo : lo ≤ w.heap.size) : Below lo w w' := ⟨h.os, h.tape, h.output, h.size, fun k hk => h.block k (by omega) (fun hm => by have := hm.1; omega)⟩
theorem bits_low (x : Int) (j : Nat) (hj : j ≤ 62) : 0 ≤ Go.bits .and .i64 x (2 ^ j - 1) ∧ Go.bits .and .i64 x (2 ^ j - 1) ≤ 2 ^ j - 1 := by
  have hp : (2 ^ j : Nat) ≤ 2 ^ 62 := Nat.pow_le_pow_right (by decide) hj
  have hpos : 0 < (2 ^ j : Nat) := Nat.two_pow_pos j
  have hc : ((2 : Int) ^ j - 1) = ((2 ^ j - 1 : Nat) : Int) := by rw [Int.natCast_sub hpos]; simp
  have hlt : (2 : Nat) ^ 62 < 2 ^ 64 := by decide
  have h1 : ((BitVec.ofInt 64 x &&& BitVec.ofInt 64 ((2 : Int) ^ j - 1)).toNat) ≤ 2 ^ j - 1 := by
    rw [BitVec.toNat_and, hc, BitVec.ofInt_natCast, BitVec.toNat_ofNat, Nat.mod_eq_of_lt (by omega)]
    exact Nat.and_le_right
  have h2 : Go.bits .and .i64 x (2 ^ j - 1) = ((BitVec.ofInt 64 x &&& BitVec.ofInt 64 ((2 : Int) ^ j - 1)).toNat : Int) := by
    unfold Go.bits
    show IntKind.i64.wrap _ = _
    rw [IntKind.wrap_i64]
    show ((BitVec.ofInt 64 x &&& BitVec.ofInt 64 ((2 : Int) ^ j - 1)).toNat + 9223372036854775808 : Int) % 18446744073709551616 - 9223372036854775808 = _
    have : (2 : Nat) ^ 62 = 4611686018427387904 := by decide
    omega
  rw [h2]
  rw [hc] at h1 ⊢
  omega
theorem bits_127 (x : Int) : 0 ≤ Go.bits .and .i64 x 127 ∧ Go.bits .and .i64 x 127 ≤ 127 := bits_low x 7 (by decide)
set_option maxHeartbeats 16000000 in
set_option maxRecDepth 100000 in
theorem limits_law (A : Option Addr) (c : Nat) (l : List Doing) (room : Int) (w : World) (hr : Kd.C kDoing w A l.length l) (hc : l.length ≤ c) (hok : ∀ x ∈ l, x.nme.size ≤ maxLen ∧ x.tn.size ≤ maxLen ∧ x.s.size ≤ maxLen) :
    Calls Try.prog 4 #[.slice A l.length c, .int .i64 room] w fun e w' => e = .returned (.bool true) ∧ Below w.heap.size w w' := by
  have HR := Lib.hid hr
  clear hr
  go_enter Try.func4, Try.ntmps4
  go_wp2_with fail
  refine (fresh_any (lo := w.heap.size) w (Nat.le_refl _)).mono ?_
  rintro e w1 ⟨db, rfl, hD1, hb1⟩
  have hn := bits_127 room
  go_wp2_with fail
  generalize bits BinOp.and IntKind.i64 room 127 = n at hn ⊢
  have hb2 : Below w1.heap.size w1 (w1.alloc (.cells #[.pointer (some ⟨db, 0, none⟩), .slice none 0 0, .int .i64 (-1), .slice none 0 0, .int .i64 0, .bool false] 31)) := (Below.refl _ _).alloc (Nat.le_refl _) _
  have hx2 : (w1.alloc (.cells #[.pointer (some ⟨db, 0, none⟩), .slice none 0 0, .int .i64 (-1), .slice none 0 0, .int .i64 0, .bool false] 31)).heap[w1.heap.size]? = some (.cells #[.pointer (some ⟨db, 0, none⟩), .slice none 0 0, .int .i64 (-1), .slice none 0 0, .int .i64 0, .bool false] 31 (0, 0)) := alloc_at w1 _
  generalize w1.alloc (.cells #[.pointer (some ⟨db, 0, none⟩), .slice none 0 0, .int .i64 (-1), .slice none 0 0, .int .i64 0, .bool false] 31) = w2 at hb2 hx2 ⊢
  have HD2 := Lib.hid (hD1.below hb2)
  have HB2 := Lib.hid (hb1.trans (hb2.mono hb1.size))
  have hlo : w.heap.size ≤ w1.heap.size := hb1.size
  clear hD1 hb1 hb2
  generalize w1.heap.size = g at hx2 hlo ⊢
  refine (act_room ⟨[], -1, true, 0⟩ (.slice none 0 0) db w2 HD2.out (Kd.R_nil _ _ _ _ _) _ _ _ n _ _ _).mono ?_
  rintro e w3 ⟨rfl, hD3, hR3, hT3⟩
  have hx3 := turned_block hx2 (by decide) hT3
  have HB3 := Lib.hid (HB2.out.trans (hT3.low HB2.out.size))
  have HX3 := Lib.hid hx3
  have HD3 := Lib.hid hD3
  have HR3 := Lib.hid hR3
  clear hD3 hR3 hT3 hx3 hx2 HD2 HB2
  have y0 : w3.cell? ⟨g, 0, none⟩ = some (.pointer (some ⟨db, 0, none⟩)) := cell_in HX3.out 0
  have y1 : w3.cell? ⟨g, 1, none⟩ = some (.slice none 0 0) := cell_in HX3.out 1
  have y2 : w3.cell? ⟨g, 2, none⟩ = some (.int .i64 (-1)) := cell_in HX3.out 2
  have y3 : w3.cell? ⟨g, 3, none⟩ = some (.slice none 0 0) := cell_in HX3.out 3
  have y4 : w3.cell? ⟨g, 4, none⟩ = some (.int .i64 0) := cell_in HX3.out 4
  have y5 : w3.cell? ⟨g, 5, none⟩ = some (.bool false) := cell_in HX3.out 5
  have fz := free_in HX3.out
  go_wp2_with fail
  clear y0 y1 y2 y3 y4 y5 fz
  go_loopw [7, 8, 9] (fun u7 u8 u9 wr => ∃ (i : Nat) (σ : PD) (vf : Value), i ≤ 40 ∧ i ≤ l.length ∧ u7 = .int .i64 i ∧ Hid (Law w.heap.size wr db g vf σ) ∧ Hid (σ.Good i ∧ σ.room = n ∧ (σ.used : Int) ≤ n) ∧ Hid (Below w.heap.size w wr)) (fun u7 _ _ _ => 41 - (intOf u7).toNat)
  case atStart => exact ⟨0, ⟨[], n, true, 0⟩, .slice none 0 0, by omega, by omega, rfl, Lib.hid ⟨HD3.out.sets HX3.out (by decide) [(0, _), (1, _), (2, _), (3, _), (4, _), (5, _)], R_sets HR3.out HX3.out (by decide) [(0, _), (1, _), (2, _), (3, _), (4, _), (5, _)], blk_set (blk_set (blk_set (blk_set (blk_set (blk_set HX3.out 0 _) 1 _) 2 _) 3 _) 4 _) 5 _⟩, Lib.hid ⟨⟨Nat.le_refl 0, Int.le_refl 0, Int.le_refl 0, rfl, fun p hp => by cases hp⟩, rfl, by show ((0 : Nat) : Int) ≤ n; omega⟩, Lib.hid (below_sets HB3.out hlo [(0, _), (1, _), (2, _), (3, _), (4, _), (5, _)])⟩
  case round =>
    obtain ⟨i, σ, vf, hi, hil, rfl, HL, HG, HB⟩ := hrel
    clear HX3 HD3 HR3 HB3
    have HSz := Lib.hid (show 1 ≤ wr.heap.size from by have := blk_lt HL.out.box; omega)
    by_cases hlt : i < 40
    · have d2 : decide ((i : Int) < 40) = true := decide_eq_true (by omega)
      by_cases hlt2 : i < l.length
      · have d1 : decide ((i : Int) < (l.length : Int)) = true := decide_eq_true (by omega)
        have p1 : (0 ≤ (i : Int)) = True := eq_true (by omega)
        have q1 : ((i : Int) < (l.length : Int)) = True := eq_true (by omega)
        obtain ⟨ad, rfl, x0, x1, x2, x3, x4, x5, x6, x7⟩ := at_Doing (Kd.C_below HR.out HB.out) i (by omega)
        have hdo : rdD l i ∈ l := by simp [rdD, List.getD, hlt2]
        obtain ⟨ad', had, kk0, kk1, kk2, kk3, kk4, kk5, kk6, kk7⟩ := at_Doing HR.out i (by omega)
        cases had
        generalize rdD l i = d at x0 x1 x2 x3 x4 x5 x6 x7 kk0 kk1 kk2 kk3 kk4 kk5 kk6 kk7 hdo
        have kk0 := Lib.hid kk0
        have kk1 := Lib.hid kk1
        have kk2 := Lib.hid kk2
        have kk3 := Lib.hid kk3
        have kk4 := Lib.hid kk4
        have kk5 := Lib.hid kk5
        have kk6 := Lib.hid kk6
        have kk7 := Lib.hid kk7
        have HDo := Lib.hid (hok d hdo)
        clear hdo
        by_cases hk4 : 4 < d.k
        · go_wp2_with fail
          go_roundw
          case rel => exact ⟨i + 1, σ, vf, by omega, by omega, by go_num, HL, Lib.hid ⟨HG.out.1.more (by omega), HG.out.2⟩, HB⟩
          case measure => simp [intOf]; omega
        · by_cases hk0 : d.k < 0
          · go_wp2_with fail
            go_roundw
            case rel => exact ⟨i + 1, σ, vf, by omega, by omega, by go_num, HL, Lib.hid ⟨HG.out.1.more (by omega), HG.out.2⟩, HB⟩
            case measure => simp [intOf]; omega
          · obtain ⟨A5, c5, rfl⟩ := Kd.R_slice HL.out.doc
            obtain ⟨m5, hm5⟩ : ∃ m5, m5 = σ.files.length := ⟨_, rfl⟩
            have HX := Lib.hid (show wr.heap[g]? = some (.cells #[.pointer (some ⟨db, 0, none⟩), .slice A5 m5 c5, .int .i64 σ.room, .slice none 0 0, .int .i64 σ.next, .bool false] 31 (0, 0)) by rw [hm5]; exact HL.out.box)
            have HA := Lib.hid (show ∀ W, Below wr.heap.size wr W → Calls Try.prog 6 #[.agg #[.pointer (some ⟨db, 0, none⟩), .slice A5 m5 c5, .int .i64 σ.room, .slice none 0 0, .int .i64 σ.next, .bool false], .agg #[.int .i64 d.k, .string d.nme, .string d.tn, .string d.s, .int .i64 d.n, .int .i64 d.a1, .int .i64 d.a2, .int .i64 d.a3]] W fun e' w' => ∃ vf', e' = .returned (.tuple #[.agg (sv db vf' (σ.step d.k d.nme d.tn d.s d.n).1), .bool true]) ∧ IsD w.heap.size w' db (σ.step d.k d.nme d.tn d.s d.n).1 ∧ IsR w' vf' (σ.step d.k d.nme d.tn d.s d.n).1 ∧ Turned w.heap.size W w' from fun W hW => by
              rw [hm5]
              exact act_any d.k ⟨by omega, by omega⟩ σ (.slice A5 σ.files.length c5) db W (HL.out.disk.below hW) (IsR.below HL.out.doc hW) (HG.out.1.fit (by omega) (by rw [HG.out.2.1]; omega)) HG.out.1.power d.nme d.tn d.s d.n d.a1 d.a2 d.a3 HDo.out.1 HDo.out.2.1 HDo.out.2.2)
            have HS := Lib.hid (step_good HG.out.1 HL.out.disk.rises d.k d.nme d.tn d.s d.n)
            have HN := Lib.hid (show (σ.step d.k d.nme d.tn d.s d.n).1.room = n ∧ ((σ.step d.k d.nme d.tn d.s d.n).1.used : Int) ≤ n from ⟨by rw [HS.out.2.2.1]; exact HG.out.2.1, by have := HS.out.2.2.2.2 (by rw [HG.out.2.1]; omega) (by rw [HG.out.2.1]; exact HG.out.2.2); rw [HG.out.2.1] at this; exact this⟩)
            have HS := Lib.hid HS.out.1
            generalize σ.step d.k d.nme d.tn d.s d.n = st at HA HS HN
            have z0 : wr.cell? ⟨g, 0, none⟩ = some (.pointer (some ⟨db, 0, none⟩)) := cell_in HX.out 0
            have z1 : wr.cell? ⟨g, 1, none⟩ = some (.slice A5 m5 c5) := cell_in HX.out 1
            have z2 : wr.cell? ⟨g, 2, none⟩ = some (.int .i64 σ.room) := cell_in HX.out 2
            have z3 : wr.cell? ⟨g, 3, none⟩ = some (.slice none 0 0) := cell_in HX.out 3
            have z4 : wr.cell? ⟨g, 4, none⟩ = some (.int .i64 σ.next) := cell_in HX.out 4
            have z5 : wr.cell? ⟨g, 5, none⟩ = some (.bool false) := cell_in HX.out 5
            clear hm5
            go_upto_region 8 with fail
            go_cut [8, 9] from 44 to 52 (fun u8 u9 wx => ∃ (g2 : Nat) (vf' : Value), u8 = .pointer (some ⟨g2, 0, none⟩) ∧ u9 = .bool true ∧ g2 ≠ g ∧ Hid (wx.heap[g2]? = some (.cells (sv db vf' st.1) 31 (0, 0))) ∧ Hid (wx.heap[g]? = some (.cells #[.pointer (some ⟨db, 0, none⟩), .slice A5 m5 c5, .int .i64 σ.room, .slice none 0 0, .int .i64 σ.next, .bool false] 31 (0, 0))) ∧ Hid (IsD w.heap.size wx db st.1 ∧ IsR wx vf' st.1) ∧ Hid (Below w.heap.size w wx))
            case first =>
              have z0d : wr.drew.cell? ⟨g, 0, none⟩ = some (.pointer (some ⟨db, 0, none⟩)) := z0
              have z1d : wr.drew.cell? ⟨g, 1, none⟩ = some (.slice A5 m5 c5) := z1
              have z2d : wr.drew.cell? ⟨g, 2, none⟩ = some (.int .i64 σ.room) := z2
              have z3d : wr.drew.cell? ⟨g, 3, none⟩ = some (.slice none 0 0) := z3
              have z4d : wr.drew.cell? ⟨g, 4, none⟩ = some (.int .i64 σ.next) := z4
              have z5d : wr.drew.cell? ⟨g, 5, none⟩ = some (.bool false) := z5
              have x0d : wr.drew.cell? (ad.add (i * 8)) = some (.int .i64 d.k) := x0
              have x1d : wr.drew.cell? ⟨(ad.add (i * 8)).block, (ad.add (i * 8)).off + 1, none⟩ = some (.string d.nme) := x1
              have x2d : wr.drew.cell? ⟨(ad.add (i * 8)).block, (ad.add (i * 8)).off + 2, none⟩ = some (.string d.tn) := x2
              have x3d : wr.drew.cell? ⟨(ad.add (i * 8)).block, (ad.add (i * 8)).off + 3, none⟩ = some (.string d.s) := x3
              have x4d : wr.drew.cell? ⟨(ad.add (i * 8)).block, (ad.add (i * 8)).off + 4, none⟩ = some (.int .i64 d.n) := x4
              have x5d : wr.drew.cell? ⟨(ad.add (i * 8)).block, (ad.add (i * 8)).off + 5, none⟩ = some (.int .i64 d.a1) := x5
              have x6d : wr.drew.cell? ⟨(ad.add (i * 8)).block, (ad.add (i * 8)).off + 6, none⟩ = some (.int .i64 d.a2) := x6
              have x7d : wr.drew.cell? ⟨(ad.add (i * 8)).block, (ad.add (i * 8)).off + 7, none⟩ = some (.int .i64 d.a3) := x7
              have hg5 : g < wr.heap.size := blk_lt HX.out
              have hab : (ad.add (i * 8)).block < wr.heap.size := World.block_lt_of_cell? wr _ x0
              go_region_held3 (fun w' => w'.cell? ⟨g, 0, none⟩ = some (.pointer (some ⟨db, 0, none⟩)) ∧ w'.cell? ⟨g, 1, none⟩ = some (.slice A5 m5 c5) ∧ w'.cell? ⟨g, 2, none⟩ = some (.int .i64 σ.room) ∧ w'.cell? ⟨g, 3, none⟩ = some (.slice none 0 0) ∧ w'.cell? ⟨g, 4, none⟩ = some (.int .i64 σ.next) ∧ w'.cell? ⟨g, 5, none⟩ = some (.bool false) ∧ w'.cell? (ad.add (i * 8)) = some (.int .i64 d.k) ∧ w'.cell? ⟨(ad.add (i * 8)).block, (ad.add (i * 8)).off + 1, none⟩ = some (.string d.nme) ∧ w'.cell? ⟨(ad.add (i * 8)).block, (ad.add (i * 8)).off + 2, none⟩ = some (.string d.tn) ∧ w'.cell? ⟨(ad.add (i * 8)).block, (ad.add (i * 8)).off + 3, none⟩ = some (.string d.s) ∧ w'.cell? ⟨(ad.add (i * 8)).block, (ad.add (i * 8)).off + 4, none⟩ = some (.int .i64 d.n) ∧ w'.cell? ⟨(ad.add (i * 8)).block, (ad.add (i * 8)).off + 5, none⟩ = some (.int .i64 d.a1) ∧ w'.cell? ⟨(ad.add (i * 8)).block, (ad.add (i * 8)).off + 6, none⟩ = some (.int .i64 d.a2) ∧ w'.cell? ⟨(ad.add (i * 8)).block, (ad.add (i * 8)).off + 7, none⟩ = some (.int .i64 d.a3))
                (first
                  | with_reducible exact ⟨z0d, z1d, z2d, z3d, z4d, z5d, x0d, x1d, x2d, x3d, x4d, x5d, x6d, x7d⟩
                  | with_reducible exact ⟨z05, z15, z25, z35, z45, z55, x05, x15, x25, x35, x45, x55, x65, x75⟩
                  | (go_split_ands; (with_reducible (refine ⟨?_, ?_, ?_, ?_, ?_, ?_, ?_, ?_, ?_, ?_, ?_, ?_, ?_, ?_⟩)) <;> with_reducible assumption)
                  | (go_split_ands; (with_reducible (refine ⟨?_, ?_, ?_, ?_, ?_, ?_, ?_, ?_, ?_, ?_, ?_, ?_, ?_, ?_⟩)) <;> (with_reducible refine cell_alloc ?_) <;> with_reducible assumption)
                  | (go_split_ands; (with_reducible (refine ⟨?_, ?_, ?_, ?_, ?_, ?_, ?_, ?_, ?_, ?_, ?_, ?_, ?_, ?_⟩)) <;> (with_reducible refine cell_alloc_drew ?_) <;> with_reducible assumption)
                  | (go_split_ands; (with_reducible (refine ⟨?_, ?_, ?_, ?_, ?_, ?_, ?_, ?_, ?_, ?_, ?_, ?_, ?_, ?_⟩)) <;> (with_reducible refine cell_set06 ?_ ?_) <;> first | with_reducible assumption | ((try simp only); omega)))
                (first
                  | (go_at_call 6; refine (HA.out _ (by first | exact below_drew (Below.refl _ _) | exact pw_below_drewN (Below.refl _ _) _ | exact below_drew (below_alloc (Below.refl _ _) _) | exact below_alloc (below_drew (Below.refl _ _)) _ | exact below_alloc (pw_below_drewN (Below.refl _ _) _) _)).mono ?_; rintro e' w5 ⟨vf', rfl, hD5, hR5, hT5⟩; obtain ⟨A6, c6, rfl⟩ := Kd.R_slice hR5; obtain ⟨m6, hm6⟩ : ∃ m6, m6 = st.1.files.length := ⟨_, rfl⟩; rw [← hm6]; rw [← hm6] at hR5; have HR5 := Lib.hid hR5; have HM6 := Lib.hid hm6; have HD5 := Lib.hid hD5; clear hR5 hm6 hD5; have hX5 : w5.heap[g]? = some (.cells #[.pointer (some ⟨db, 0, none⟩), .slice A5 m5 c5, .int .i64 σ.room, .slice none 0 0, .int .i64 σ.next, .bool false] 31 (0, 0)) := (by first | exact turned_drew HX.out (by decide) hT5 | exact turned_drew (alloc_block HX.out) (by decide) hT5); have hB5 : Below w.heap.size w w5 := (by first | exact HB.out.drew.trans (hT5.low HB.out.size) | exact (below_alloc HB.out _).drew.trans (hT5.low (below_alloc HB.out _).size)); (try (have hy5 : w5.heap[wr.heap.size]? = some (.cells #[.pointer none, .slice none 0 0, .int .i64 0, .slice none 0 0, .int .i64 0, .bool false] 31 (0, 0)) := turned_drew (alloc_at' wr _) (by decide) hT5; have v0 : w5.cell? ⟨wr.heap.size, 0, none⟩ = some (.pointer none) := cell_in hy5 0; have v1 : w5.cell? ⟨wr.heap.size, 1, none⟩ = some (.slice none 0 0) := cell_in hy5 1; have v2 : w5.cell? ⟨wr.heap.size, 2, none⟩ = some (.int .i64 0) := cell_in hy5 2; have v3 : w5.cell? ⟨wr.heap.size, 3, none⟩ = some (.slice none 0 0) := cell_in hy5 3; have v4 : w5.cell? ⟨wr.heap.size, 4, none⟩ = some (.int .i64 0) := cell_in hy5 4; have v5 : w5.cell? ⟨wr.heap.size, 5, none⟩ = some (.bool false) := cell_in hy5 5; have fy5 := free_in hy5; have hy5 := Lib.hid hy5)); have z05 : w5.cell? ⟨g, 0, none⟩ = some (.pointer (some ⟨db, 0, none⟩)) := cell_in hX5 0; have z15 : w5.cell? ⟨g, 1, none⟩ = some (.slice A5 m5 c5) := cell_in hX5 1; have z25 : w5.cell? ⟨g, 2, none⟩ = some (.int .i64 σ.room) := cell_in hX5 2; have z35 : w5.cell? ⟨g, 3, none⟩ = some (.slice none 0 0) := cell_in hX5 3; have z45 : w5.cell? ⟨g, 4, none⟩ = some (.int .i64 σ.next) := cell_in hX5 4; have z55 : w5.cell? ⟨g, 5, none⟩ = some (.bool false) := cell_in hX5 5; have x05 : w5.cell? (ad.add (i * 8)) = some (.int .i64 d.k) := pw_cell_low hB5 kk0.out; have x15 : w5.cell? ⟨(ad.add (i * 8)).block, (ad.add (i * 8)).off + 1, none⟩ = some (.string d.nme) := pw_cell_low hB5 kk1.out; have x25 : w5.cell? ⟨(ad.add (i * 8)).block, (ad.add (i * 8)).off + 2, none⟩ = some (.string d.tn) := pw_cell_low hB5 kk2.out; have x35 : w5.cell? ⟨(ad.add (i * 8)).block, (ad.add (i * 8)).off + 3, none⟩ = some (.string d.s) := pw_cell_low hB5 kk3.out; have x45 : w5.cell? ⟨(ad.add (i * 8)).block, (ad.add (i * 8)).off + 4, none⟩ = some (.int .i64 d.n) := pw_cell_low hB5 kk4.out; have x55 : w5.cell? ⟨(ad.add (i * 8)).block, (ad.add (i * 8)).off + 5, none⟩ = some (.int .i64 d.a1) := pw_cell_low hB5 kk5.out; have x65 : w5.cell? ⟨(ad.add (i * 8)).block, (ad.add (i * 8)).off + 6, none⟩ = some (.int .i64 d.a2) := pw_cell_low hB5 kk6.out; have x75 : w5.cell? ⟨(ad.add (i * 8)).block, (ad.add (i * 8)).off + 7, none⟩ = some (.int .i64 d.a3) := pw_cell_low hB5 kk7.out))
              · go_wp2_with fail
                go_meet
                exact ⟨w5.heap.size, _, rfl, rfl, by have := hB5.size; have := blk_lt hX5; omega, Lib.hid (by exact alloc_at' w5 _), Lib.hid (alloc_block hX5), Lib.hid ⟨HD5.out.below ((Below.refl _ w5).alloc (Nat.le_refl _) _), IsR.below HR5.out ((Below.refl _ w5).alloc (Nat.le_refl _) _)⟩, Lib.hid (below_alloc hB5 _)⟩
              · go_wp2_with fail
                go_meet
                exact ⟨wr.heap.size, _, rfl, rfl, by omega, Lib.hid (by exact blk_set (blk_set (blk_set (blk_set (blk_set (blk_set hy5.out 0 _) 1 _) 2 _) 3 _) 4 _) 5 _), Lib.hid ((sets_other w5 wr.heap.size g [(0, _), (1, _), (2, _), (3, _), (4, _), (5, _)] (by omega)).trans hX5), Lib.hid ⟨HD5.out.sets hy5.out (by decide) [(0, _), (1, _), (2, _), (3, _), (4, _), (5, _)], R_sets HR5.out hy5.out (by decide) [(0, _), (1, _), (2, _), (3, _), (4, _), (5, _)]⟩, Lib.hid (below_sets hB5 (by have := HB.out.size; omega) [(0, _), (1, _), (2, _), (3, _), (4, _), (5, _)])⟩
            case rest =>
              obtain ⟨g2, vf', rfl, rfl, hne, HY6, HX6, HDR, HB6⟩ := hcut
              obtain ⟨A7, c7, hv7⟩ := Kd.R_slice HDR.out.2
              obtain ⟨m7, hm7⟩ : ∃ m7, m7 = st.1.files.length := ⟨_, rfl⟩
              rw [← hm7] at hv7
              subst hv7
              clear hm7
              have HD6 := Lib.hid HDR.out.1
              have HR6 := Lib.hid HDR.out.2
              clear HDR HL HX HA
              have y0 : wc.cell? ⟨g2, 0, none⟩ = some (.pointer (some ⟨db, 0, none⟩)) := cell_in HY6.out 0
              have y1 : wc.cell? ⟨g2, 1, none⟩ = some (.slice A7 m7 c7) := cell_in HY6.out 1
              have y2 : wc.cell? ⟨g2, 2, none⟩ = some (.int .i64 st.1.room) := cell_in HY6.out 2
              have y3 : wc.cell? ⟨g2, 3, none⟩ = some (.slice none 0 0) := cell_in HY6.out 3
              have y4 : wc.cell? ⟨g2, 4, none⟩ = some (.int .i64 st.1.next) := cell_in HY6.out 4
              have y5 : wc.cell? ⟨g2, 5, none⟩ = some (.bool false) := cell_in HY6.out 5
              clear x0 x1 x2 x3 x4 x5 x6 x7 z0 z1 z2 z3 z4 z5
              have z0 : wc.cell? ⟨g, 0, none⟩ = some (.pointer (some ⟨db, 0, none⟩)) := cell_in HX6.out 0
              have z1 : wc.cell? ⟨g, 1, none⟩ = some (.slice A5 m5 c5) := cell_in HX6.out 1
              have z2 : wc.cell? ⟨g, 2, none⟩ = some (.int .i64 σ.room) := cell_in HX6.out 2
              have z3 : wc.cell? ⟨g, 3, none⟩ = some (.slice none 0 0) := cell_in HX6.out 3
              have z4 : wc.cell? ⟨g, 4, none⟩ = some (.int .i64 σ.next) := cell_in HX6.out 4
              have z5 : wc.cell? ⟨g, 5, none⟩ = some (.bool false) := cell_in HX6.out 5
              have fz := free_in HX6.out
              go_wp2_with fail
              have hD7 := HD6.out.sets HX6.out (by decide) [(0, .pointer (some ⟨db, 0, none⟩)), (1, .slice A7 m7 c7), (2, .int .i64 st.1.room), (3, .slice none 0 0), (4, .int .i64 st.1.next), (5, .bool false)]
              have hR7 := R_sets HR6.out HX6.out (by decide) [(0, .pointer (some ⟨db, 0, none⟩)), (1, .slice A7 m7 c7), (2, .int .i64 st.1.room), (3, .slice none 0 0), (4, .int .i64 st.1.next), (5, .bool false)]
              have hx7 := blk_set (blk_set (blk_set (blk_set (blk_set (blk_set HX6.out 0 (.pointer (some ⟨db, 0, none⟩))) 1 (.slice A7 m7 c7)) 2 (.int .i64 st.1.room)) 3 (.slice none 0 0)) 4 (.int .i64 st.1.next)) 5 (.bool false)
              have hb7 := below_sets HB6.out hlo [(0, .pointer (some ⟨db, 0, none⟩)), (1, .slice A7 m7 c7), (2, .int .i64 st.1.room), (3, .slice none 0 0), (4, .int .i64 st.1.next), (5, .bool false)]
              have hFit : st.1.Fit := HS.out.fit (by omega) (by rw [HN.out.1]; omega)
              refine (alike_any st.1 (.slice A7 m7 c7) db _ hD7 hR7 hFit HS.out.power HS.out.names).mono ?_
              rintro e w8 ⟨rfl, hb8⟩
              have HX8 := Lib.hid ((hb8.block _ (blk_lt hx7)).trans hx7)
              have HD8 := Lib.hid (hD7.below hb8)
              have HR8 := Lib.hid (IsR.below hR7 hb8)
              have HB8 := Lib.hid (hb7.trans (hb8.mono hb7.size))
              have HFit := Lib.hid hFit
              clear hD7 hR7 hx7 hb7 hb8 hFit y0 y1 y2 y3 y4 y5 z0 z1 z2 z3 z4 z5 fz
              have z0 : w8.cell? ⟨g, 0, none⟩ = some (.pointer (some ⟨db, 0, none⟩)) := cell_in HX8.out 0
              go_wp2_with fail
              refine (used_d HD8.out HFit.out).mono ?_
              rintro e w9 ⟨rfl, hb9⟩
              have hN := HN.out.2
              go_wp2_with fail
              go_roundw
              case rel => exact ⟨i + 1, st.1, .slice A7 m7 c7, by omega, by omega, by go_num, Lib.hid ⟨HD8.out.below hb9, IsR.below HR8.out hb9, (hb9.block _ (blk_lt HX8.out)).trans HX8.out⟩, Lib.hid ⟨HS.out, HN.out⟩, Lib.hid (HB8.out.trans (hb9.mono HB8.out.size))⟩
              case measure => simp [intOf]; omega
      · have d1 : decide ((i : Int) < (l.length : Int)) = false := decide_eq_false (by omega)
        go_wp2_with fail
        refine (awake_any wr HSz.out).mono ?_
        rintro e w4 ⟨rfl, hb4⟩
        go_wp2_with fail
        go_ret
        exact ⟨rfl, HB.out.trans (hb4.mono HB.out.size)⟩
    · have d2 : decide ((i : Int) < 40) = false := decide_eq_false (by omega)
      by_cases hlt2 : i < l.length
      · have d1 : decide ((i : Int) < (l.length : Int)) = true := decide_eq_true (by omega)
        go_wp2_with fail
        refine (awake_any wr HSz.out).mono ?_
        rintro e w4 ⟨rfl, hb4⟩
        go_wp2_with fail
        go_ret
        exact ⟨rfl, HB.out.trans (hb4.mono HB.out.size)⟩
      · have d1 : decide ((i : Int) < (l.length : Int)) = false := decide_eq_false (by omega)
        go_wp2_with fail
        refine (awake_any wr HSz.out).mono ?_
        rintro e w4 ⟨rfl, hb4⟩
        go_wp2_with fail
        go_ret
        exact ⟨rfl, HB.out.trans (hb4.mono HB.out.size)⟩
set_option maxRecDepth 100000 in
open Go.Proofs.YtcongfiojbajeaaO Go.ChangeShapes Go.WideShapes in
theorem opens_doing : Opens Try.prog 34 kDoing (fun x => x.nme.size ≤ maxLen ∧ x.tn.size ≤ maxLen ∧ x.s.size ≤ maxLen) := by
  intro H enc w base spare held fuel cs x h
  obtain ⟨xs, n, _, _, hl, hlen, hf⟩ := DataW.trod_struct Try.underlying34 h
  have hc : Try.prog.cellsOf 34 = 8 := by kernel_rfl
  have hi : Try.prog.cellsOf 3 = 1 := by kernel_rfl
  have hs : Try.prog.cellsOf 9 = 1 := by kernel_rfl
  have hg : Try.prog.cellsOf 24 = 3 := by kernel_rfl
  rw [hc] at hl
  match cs, hl with
  | [c0, c1, c2, c3, c4, c5, c6, c7], _ =>
    match xs, hlen with
    | [x0, x1, x2, x3, x4, x5], _ =>
      have h0 := hf 0 _ rfl
      have h1 := hf 1 _ rfl
      have h2 := hf 2 _ rfl
      have h3 := hf 3 _ rfl
      have h4 := hf 4 _ rfl
      have h5 := hf 5 _ rfl
      simp only [hi, hs, hg, List.drop_zero, List.drop_succ_cons, List.take_succ_cons, List.take_zero, List.getElem?_cons_zero, List.getElem?_cons_succ] at h0 h1 h2 h3 h4 h5
      obtain ⟨a0, e0, _, _⟩ := DataW.trod_int Try.underlying3 h0
      obtain ⟨a1, e1, _, w1⟩ := DataW.trod_string Try.underlying9 h1
      obtain ⟨a2, e2, _, w2⟩ := DataW.trod_string Try.underlying9 h2
      obtain ⟨a3, e3, _, w3⟩ := DataW.trod_string Try.underlying9 h3
      obtain ⟨a4, e4, _, _⟩ := DataW.trod_int Try.underlying3 h4
      obtain ⟨ys, n5, _, _, hl5, hlen5, hf5⟩ := DataW.trod_struct Try.underlying24 h5
      clear hl5
      match ys, hlen5 with
      | [y0, y1, y2], _ =>
        have g0 := hf5 0 _ rfl
        have g1 := hf5 1 _ rfl
        have g2 := hf5 2 _ rfl
        simp only [hi, hs, List.drop_zero, List.drop_succ_cons, List.take_succ_cons, List.take_zero, List.getElem?_cons_zero, List.getElem?_cons_succ] at g0 g1 g2
        obtain ⟨a5, e5, _, _⟩ := DataW.trod_int Try.underlying3 g0
        obtain ⟨a6, e6, _, _⟩ := DataW.trod_int Try.underlying3 g1
        obtain ⟨a7, e7, _, _⟩ := DataW.trod_int Try.underlying3 g2
        cases e0; cases e1; cases e2; cases e3; cases e4; cases e5; cases e6; cases e7
        exact ⟨⟨a0, a1, a2, a3, a4, a5, a6, a7⟩, ⟨[_], [_, _, _, _, _, _, _], rfl, rfl, [_], [_, _, _, _, _, _], rfl, rfl, [_], [_, _, _, _, _], rfl, rfl, [_], [_, _, _, _], rfl, rfl, [_], [_, _, _], rfl, rfl, [_], [_, _], rfl, rfl, [_], [_], rfl, rfl, rfl⟩, w1, w2, w3⟩
end Go.Proofs.YtcongfiojbajeaaK
