/- A file of the disk: its bytes, and how it is made sure: the walks. Conditions: the file lies in the world; it has fewer than 1000000000 bytes, all in all. -/
import Derived.Test.YtcongfiojbajeaaProg
import Derived.Test.YtcongfiojbajeaaDiskPure
import Derived.Test.YtcongfiojbajeaaWWords
import Derived.WalkKit
import Derived.Lib.Hide
namespace Go.Proofs.YtcongfiojbajeaaK
open Go Go.RowKit Go.Proofs.YtcongfiojbajeaaM Go.Proofs.YtcongfiojbajeaaW.PrintWords
set_option linter.unusedVariables false
set_option linter.unusedSimpArgs false
/-- A piece: its bytes, whether they are in the place of all. -/
def kP : Kd (ByteArray × Bool) := Kd.pair Kd.string Kd.bool
theorem piece_read {w : World} {A : Option Addr} {n : Nat} {l : List (ByteArray × Bool)} (h : Kd.C kP w A n l) (m : Nat) (hm : m < l.length) (hn : m < n) :
    ∃ ad, A = some ad ∧ w.cell? (ad.add (m * 2)) = some (.string l[m].1) ∧ w.cell? ⟨(ad.add (m * 2)).block, (ad.add (m * 2)).off + 1, none⟩ = some (.bool l[m].2) := by
  obtain ⟨ad, cc, eA, _, hK, hcc⟩ := Kd.C_get h (ByteArray.empty, false) m (by omega) (by omega)
  obtain ⟨c0, c1, rfl, h0, h1⟩ := hK
  have e0 : c0 = [.string l[m].1] := by
    have : c0 = [.string (l.getD (m : Int).toNat (ByteArray.empty, false)).1] := h0
    rw [this]; simp [List.getD, hm]
  have e1 : c1 = [.bool l[m].2] := by
    have : c1 = [.bool (l.getD (m : Int).toNat (ByteArray.empty, false)).2] := h1
    rw [this]; simp [List.getD, hm]
  subst e0 e1
  have q0 : w.cell? (ad.add ((m : Int).toNat * 2 + 0)) = some (.string l[m].1) := hcc 0 _ rfl
  have q1 : w.cell? (ad.add ((m : Int).toNat * 2 + 1)) = some (.bool l[m].2) := hcc 1 _ rfl
  refine ⟨ad, eA, by simpa using q0, ?_⟩
  have e : ad.add ((m : Int).toNat * 2 + 1) = ⟨(ad.add (m * 2)).block, (ad.add (m * 2)).off + 1, none⟩ := by
    rw [Int.toNat_natCast]
    by_cases h0 : m = 0
    · subst h0; simp [Addr.add]
    · have h2 : ¬ (m * 2 = 0) := by omega
      have h3 : ¬ (m * 2 + 1 = 0) := by omega
      unfold Addr.add
      simp only [h2, h3, if_false, Addr.mk.injEq, and_true, true_and]
      omega
  rw [← e]; exact q1
theorem cell_in {w : World} {b : Nat} {cs : Array Value} {t : TypeId} {fr : Nat × Nat} (h : w.heap[b]? = some (.cells cs t fr)) (j : Nat) : w.cell? ⟨b, j, none⟩ = cs[j]? := by
  unfold World.cell?; rw [h]; rfl
theorem free_in {w : World} {b : Nat} {cs : Array Value} {t : TypeId} (h : w.heap[b]? = some (.cells cs t (0, 0))) (j : Nat) : w.frozen? ⟨b, j, none⟩ = false := by
  unfold World.frozen?; rw [h]; simp
set_option maxRecDepth 100000 in
theorem on_any (p : ByteArray × Bool) (s : ByteArray) (w : World) (h : s.size + p.1.size ≤ 1000000000) :
    Calls Try.prog 46 #[.agg #[.string p.1, .bool p.2], .string s] w fun e w' => e = .returned (.string (onP s p)) ∧ Below w.heap.size w w' := by
  obtain ⟨t, b⟩ := p
  have HB := Lib.hid ((Below.refl w.heap.size w).alloc (Nat.le_refl _) (.cells #[.string t, .bool b] 58))
  cases b with
  | true =>
    have HO := Lib.hid (show onP s (t, true) = t from rfl)
    go_enter Try.func46, Try.ntmps46
    go_wp2
    go_ret
    exact ⟨by rw [HO.out]; rfl, HB.out⟩
  | false =>
    have HO := Lib.hid (show onP s (t, false) = s ++ t from rfl)
    have h2 : s.size + t.size ≤ 9223372036854775807 := by have : s.size + t.size ≤ 1000000000 := h; omega
    have h3 : ¬ (9223372036854775807 < s.size + t.size) := by omega
    go_enter Try.func46, Try.ntmps46
    go_wp2
    go_ret
    exact ⟨by rw [HO.out]; rfl, HB.out⟩
/-- A file, as it lies. -/
def Lies (w : World) (fb : Nat) (f : PF) (v : Value) : Prop := w.heap[fb]? = some (.cells #[.string f.sure, .bool f.there, v] 69 (0, 0))
theorem fold_take (f : PF) (k : Nat) : ((f.loose.take k).foldl onP f.sure).size ≤ f.vol := by
  have h1 := fold_size (f.loose.take k) f.sure
  have h2 : ((f.loose.take k).map fun p => p.1.size).sum ≤ (f.loose.map fun p => p.1.size).sum := by
    conv => rhs; rw [← List.take_append_drop k f.loose]
    rw [List.map_append, List.sum_append]; omega
  unfold PF.vol; omega
theorem piece_small (f : PF) (k : Nat) (hk : k < f.loose.length) : ((f.loose.take k).foldl onP f.sure).size + (f.loose[k]).1.size ≤ f.vol := by
  have h1 := fold_size (f.loose.take k) f.sure
  have h2 : ((f.loose.take k).map fun p => p.1.size).sum + (f.loose[k]).1.size ≤ (f.loose.map fun p => p.1.size).sum := by
    conv => rhs; rw [← List.take_append_drop k f.loose, List.drop_eq_getElem_cons hk]
    rw [List.map_append, List.sum_append, List.map_cons, List.sum_cons]; omega
  unfold PF.vol; omega
set_option maxHeartbeats 2000000 in
set_option maxRecDepth 100000 in
theorem now_any (fb : Nat) (f : PF) (A : Option Addr) (c : Nat) (w : World) (hl : Lies w fb f (.slice A f.loose.length c)) (hc : Kd.C kP w A f.loose.length f.loose) (hv : f.vol ≤ 1000000000) (hn : f.loose.length ≤ 1000000000) :
    Calls Try.prog 29 #[.pointer (some ⟨fb, 0, none⟩)] w fun e w' => e = .returned (.string f.now) ∧ Below w.heap.size w w' := by
  have x0 : w.cell? ⟨fb, 0, none⟩ = some (.string f.sure) := cell_in hl 0
  have x2 : w.cell? ⟨fb, 2, none⟩ = some (.slice A f.loose.length c) := cell_in hl 2
  have HC := Lib.hid hc
  have HV := Lib.hid hv
  have HN := Lib.hid (show f.now = (f.loose.take f.loose.length).foldl onP f.sure by rw [List.take_length]; rfl)
  clear hl hc hv
  go_enter Try.func29, Try.ntmps29
  go_wp2
  have H0 := Lib.hid (Below.refl w.heap.size w)
  go_loopw [3, 15] (fun s i wr => ∃ k : Nat, k ≤ f.loose.length ∧ i = .int .i64 k ∧ s = .string ((f.loose.take k).foldl onP f.sure) ∧ Hid (Below w.heap.size w wr)) (fun _ i _ => f.loose.length + 1 - (intOf i).toNat)
  case atStart => exact ⟨0, by omega, rfl, rfl, H0⟩
  case round =>
    obtain ⟨k, hk, rfl, rfl, HB⟩ := hrel
    clear H0 x0 x2
    by_cases hlt : k < f.loose.length
    · have d1 : decide ((k : Int) < (f.loose.length : Int)) = true := decide_eq_true (by omega)
      have p1 : (0 ≤ (k : Int)) = True := eq_true (by omega)
      have q1 : ((k : Int) < (f.loose.length : Int)) = True := eq_true (by omega)
      obtain ⟨ad, rfl, y0, y1⟩ := piece_read (Kd.C_below HC.out HB.out) k hlt hlt
      have hsm := piece_small f k hlt
      have HT := Lib.hid (show (f.loose.take (k + 1)).foldl onP f.sure = onP ((f.loose.take k).foldl onP f.sure) f.loose[k] by
        rw [List.take_succ_eq_append_getElem hlt, List.foldl_append]; rfl)
      generalize f.loose[k] = p at y0 y1 hsm HT
      have HS := Lib.hid (Nat.le_trans hsm HV.out)
      clear hsm
      go_wp2_with fail
      refine (on_any p _ _ HS.out).mono ?_
      rintro e w1 ⟨rfl, hb⟩
      have HB1 := Lib.hid (((HB.out.alloc HB.out.size (.cells #[.string p.1, .bool p.2] 58))).trans (hb.mono (by simp; have := HB.out.size; omega)))
      clear hb
      go_wp2
      go_roundw
      case rel => exact ⟨k + 1, by omega, by go_num, by rw [HT.out], HB1⟩
      case measure => simp [intOf]; omega
    · obtain rfl : k = f.loose.length := by omega
      have d1 : decide ((f.loose.length : Int) < (f.loose.length : Int)) = false := decide_eq_false (by omega)
      go_wp2
      go_ret
      exact ⟨by rw [HN.out]; rfl, HB.out⟩
end Go.Proofs.YtcongfiojbajeaaK
