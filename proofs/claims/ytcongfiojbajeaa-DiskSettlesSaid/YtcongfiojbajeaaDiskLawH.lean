/- The law of the disk: side.alike: what the disk has is what the document has. -/
import Derived.Test.YtcongfiojbajeaaDiskLawD
import Derived.Test.YtcongfiojbajeaaLater
namespace Go.Proofs.YtcongfiojbajeaaK
open Go Go.RowKit Go.Maps Go.Proofs.YtcongfiojbajeaaM Go.Proofs.YtcongfiojbajeaaT Go.Proofs.YtcongfiojbajeaaW.PrintWords Go.Proofs.YtcongfiojbajeaaN
variable {lo : Nat}
set_option linter.unusedVariables false
set_option linter.unusedSimpArgs false
theorem name_read {w : World} {A : Option Addr} {n : Nat} {l : List ByteArray} (h : Kd.C Kd.string w A n l) (m : Nat) (hm : m < l.length) (hn : m < n) :
    ∃ ad, A = some ad ∧ w.cell? (ad.add m) = some (.string l[m]) := by
  obtain ⟨ad, cc, eA, _, hK, hcc⟩ := Kd.C_get h ByteArray.empty m (by omega) (by omega)
  have hx : l.getD (m : Int).toNat ByteArray.empty = l[m] := by simp [List.getD, hm]
  rw [hx] at hK
  have hK : cc = [.string l[m]] := hK
  subst hK
  refine ⟨ad, eA, ?_⟩
  have q := hcc 0 _ rfl
  have e : Kd.string.sz = 1 := rfl
  rw [e] at q
  simpa using q
theorem aft_cell {w : World} {b t : Nat} {cells : Array Value} (h : w.heap[b]? = some (.cells cells t (0, 0))) (j : Nat) (n : Aft w) : n.out.cell? ⟨b, j, none⟩ = cells[j]? := cell_in (n.cell (j := j) h) j
open Classical in
theorem nm_size {s : ByteArray} (h : nm s = true) : s.size ≤ 240 := by
  unfold nm at h
  exact (of_decide_eq_true h).2.2
set_option maxHeartbeats 4000000 in
set_option maxRecDepth 100000 in
theorem alike_any (σ : PD) (vf : Value) (db : Nat) (w : World) (hD : IsD lo w db σ) (hR : IsR w vf σ) (hF : σ.Fit) (hp : σ.power = true) (hn : ∀ p ∈ σ.files, nm p.1 = true) :
    Calls Try.prog 16 #[.agg #[.pointer (some ⟨db, 0, none⟩), vf, .int .i64 σ.room, .slice none 0 0, .int .i64 σ.next, .bool false]] w fun e' w' => e' = .returned (.bool true) ∧ Below w.heap.size w w' := by
  obtain ⟨A, c, rfl⟩ := Kd.R_slice hR
  obtain ⟨l, hl⟩ : ∃ l, l = σ.files := ⟨_, rfl⟩
  rw [← hl]
  obtain ⟨w1, hw1⟩ : ∃ w1, w.alloc (.cells #[.pointer (some ⟨db, 0, none⟩), .slice A l.length c, .int .i64 σ.room, .slice none 0 0, .int .i64 σ.next, .bool false] 31) = w1 := ⟨_, rfl⟩
  have HB1 := Lib.hid (show Below w.heap.size w w1 by rw [← hw1]; exact (Below.refl _ _).alloc (Nat.le_refl _) _)
  have HX1 := Lib.hid (show w1.heap[w.heap.size]? = some (.cells #[.pointer (some ⟨db, 0, none⟩), .slice A l.length c, .int .i64 σ.room, .slice none 0 0, .int .i64 σ.next, .bool false] 31 (0, 0)) by rw [← hw1]; exact alloc_at w _)
  have HD := Lib.hid (hD.below HB1.out)
  have HC := Lib.hid (Kd.C_below (C_of_R hR) HB1.out)
  have HF := Lib.hid hF
  have HRd := Lib.hid (show ∀ k (hk : k < l.length), σ.read l[k].1 = (l[k].2.now, 0) ∧ l[k].1.size ≤ 9223372036854775807 by
    intro k hk
    subst hl
    have hm := List.getElem_mem hk
    have h1 := hn _ hm
    have hg := get_of_mem hD.rises.nodup (show (σ.files[k].1, σ.files[k].2) ∈ σ.files from hm)
    have hth : σ.there σ.files[k].1 = 0 := by unfold PD.there; simp [hp, h1, hg]
    refine ⟨?_, ?_⟩
    · unfold PD.read PD.at; rw [if_pos hth, hg]; rfl
    · have := nm_size h1
      omega)
  have HP := Lib.hid hp
  have HLen := Lib.hid (show l.length ≤ 1000000 by rw [hl]; exact hF.len)
  have HUsed := Lib.hid (show (σ.used : Nat) = (l.map fun p => p.2.now.size).sum by rw [hl]; rfl)
  have HLoose := Lib.hid (show (σ.looseN : Nat) = (l.map fun p => p.2.loose.length).sum by rw [hl]; rfl)
  have HVol := Lib.hid (show ∀ p ∈ l, p.2.vol ≤ 1000000 ∧ p.2.loose.length ≤ 1000000 by rw [hl]; exact fun p hp => hF.file hp)
  have HSum := Lib.hid (show (l.map fun p => p.2.now.size).sum ≤ 1000000 by rw [← HUsed.out]; exact Nat.le_trans (used_mass σ) hF.mass)
  have HSum2 := Lib.hid (show (l.map fun p => p.2.loose.length).sum ≤ 1000000 by rw [← HLoose.out]; exact Nat.le_trans (loose_le σ) hF.mass)
  have HNames := Lib.hid (names_d HD.out HF.out)
  rw [← hl] at HC HNames
  clear hD hR hF hn hp hl
  go_enter Try.func16, Try.ntmps16
  have x0 : w1.cell? ⟨w.heap.size, 0, none⟩ = some (.pointer (some ⟨db, 0, none⟩)) := cell_in HX1.out 0
  go_wp2_with fail
  refine HNames.out.mono ?_
  rintro e' w2 ⟨v, rfl, hv, hb2⟩
  obtain ⟨A2, c2, rfl⟩ := Kd.R_slice hv
  rw [List.length_map]
  have HB2 := Lib.hid hb2
  have HX2 := Lib.hid ((hb2.block _ (blk_lt HX1.out)).trans HX1.out)
  have HV := Lib.hid (show Kd.C Kd.string w2 A2 l.length (l.map (·.1)) by
    obtain ⟨A', c', he, _, hC⟩ := Kd.R_reads hv
    injection he with he1 he2 he3
    subst he1
    rwa [List.length_map] at hC)
  have HD2 := Lib.hid (HD.out.below hb2)
  have HC2 := Lib.hid (Kd.C_below HC.out hb2)
  clear hv hb2 x0
  have x0 : ∀ n : Aft w2, n.out.cell? ⟨w.heap.size, 0, none⟩ = some (.pointer (some ⟨db, 0, none⟩)) := aft_cell HX2.out 0
  have x1 : ∀ n : Aft w2, n.out.cell? ⟨w.heap.size, 1, none⟩ = some (.slice A l.length c) := aft_cell HX2.out 1
  have x2 : ∀ n : Aft w2, n.out.cell? ⟨w.heap.size, 2, none⟩ = some (.int .i64 σ.room) := aft_cell HX2.out 2
  have x3 : ∀ n : Aft w2, n.out.cell? ⟨w.heap.size, 3, none⟩ = some (.slice none 0 0) := aft_cell HX2.out 3
  have x4 : ∀ n : Aft w2, n.out.cell? ⟨w.heap.size, 4, none⟩ = some (.int .i64 σ.next) := aft_cell HX2.out 4
  have x5 : ∀ n : Aft w2, n.out.cell? ⟨w.heap.size, 5, none⟩ = some (.bool false) := aft_cell HX2.out 5
  have CU := Lib.hid (fun n : Aft w2 => calls_aft (used_d (HD2.out.below n.below) HF.out))
  have CS := Lib.hid (fun n : Aft w2 => calls_aft (show Calls Try.prog 32 #[.agg #[.slice A l.length c, .int .i64 σ.room, .slice none 0 0, .int .i64 σ.next, .bool false]] n.out fun e w' => e = .returned (.int .i64 (σ.used : Nat)) ∧ Below n.out.heap.size n.out w' by
    rw [HUsed.out]; exact rsize l A c _ _ _ _ _ (Kd.C_below HC2.out n.below) HLen.out HVol.out HSum.out))
  have CD := Lib.hid (fun n : Aft w2 => calls_aft_same (show Calls Try.prog 24 #[.pointer (some ⟨db, 0, none⟩)] n.out fun e w' => e = .returned (.bool false) ∧ w' = n.out by
    have := dead_d (HD2.out.below n.below); rw [HP.out] at this; exact this))
  have CC := Lib.hid (fun n : Aft w2 => calls_aft_same (changes_d (HD2.out.below n.below)))
  have CL := Lib.hid (fun n : Aft w2 => calls_aft (loose_d (HD2.out.below n.below) HF.out))
  have CM := Lib.hid (fun n : Aft w2 => calls_aft (show Calls Try.prog 35 #[.agg #[.slice A l.length c, .int .i64 σ.room, .slice none 0 0, .int .i64 σ.next, .bool false]] n.out fun e w' => e = .returned (.int .i64 (σ.looseN : Nat)) ∧ Below n.out.heap.size n.out w' by
    rw [HLoose.out]; exact rloose l A c _ _ _ _ _ (Kd.C_below HC2.out n.below) HLen.out HSum2.out))
  generalize σ.used = U at CU CS HUsed
  generalize σ.looseN = V at CL CM HLoose
  go_upto_region 2 with fail
  refine region_aft (by kernel_rfl) (by kernel_rfl) ?_
  repeat (go_big_quiet_step (first
    | (go_at_call 17; exact CU.out _)
    | (go_at_call 32; exact CS.out _)
    | (go_at_call 24; exact CD.out _)
    | (go_at_call 33; exact CC.out _)
    | (go_at_call 34; exact CL.out _)
    | (go_at_call 35; exact CM.out _)))
  refine wpQuiet_nil ?_
  rintro w3 ⟨n3, rfl⟩
  go_wp2_with fail
  go_loopw [4, 5, 6] (fun i _ _ wr => ∃ k : Nat, k ≤ l.length ∧ i = .int .i64 k ∧ ∃ n : Aft w2, wr = n.out) (fun i _ _ _ => l.length + 1 - (intOf i).toNat)
  case atStart => exact ⟨0, by omega, rfl, n3, rfl⟩
  case round =>
    obtain ⟨k, hk, rfl, n, rfl⟩ := hrel
    have hL6 := HLen.out
    by_cases hlt : k < l.length
    · have d1 : decide ((k : Int) < (l.length : Int)) = true := decide_eq_true (by omega)
      have p1 : (0 ≤ (k : Int)) = True := eq_true (by omega)
      have q1 : ((k : Int) < (l.length : Int)) = True := eq_true (by omega)
      obtain ⟨ad2, rfl, y⟩ := name_read HV.out k (by rw [List.length_map]; exact hlt) hlt
      rw [List.getElem_map] at y
      obtain ⟨ad, A', c', rfl, ⟨z0, z1, z2, z3⟩, hle, hC⟩ := agg_read HC2.out k hlt hlt
      have y := Aft.old y
      have z0 := Aft.old z0
      have z1 := Aft.old z1
      have z2 := Aft.old z2
      have z3 := Aft.old z3
      have CR := Lib.hid (fun n : Aft w2 => calls_aft (show Calls Try.prog 14 #[.pointer (some ⟨db, 0, none⟩), .string l[k].1] n.out fun e w' => e = .returned (.tuple #[.string l[k].2.now, .int .i64 0]) ∧ Below n.out.heap.size n.out w' by
        have := read_d (HD2.out.below n.below) HF.out l[k].1 (HRd.out k hlt).2
        rw [(HRd.out k hlt).1] at this
        exact this))
      have CB := Lib.hid (fun n : Aft w2 => calls_aft (rbytes l[k].1 l[k].2 A' c' n.out (Kd.C_below hC n.below) (HVol.out _ (List.getElem_mem hlt)).1 (HVol.out _ (List.getElem_mem hlt)).2))
      generalize l[k] = f at y z0 z1 z2 z3 CR CB
      clear hle hC
      go_wp2_with fail
      refine region_aft2 (by kernel_rfl) (by kernel_rfl) ?_
      repeat (go_big_quiet_step ((go_at_call 14; exact CR.out _)))
      refine wpQuiet_nil ?_
      rintro w4 ⟨n4, rfl⟩
      go_wp2_with fail
      refine region_aft2 (by kernel_rfl) (by kernel_rfl) ?_
      repeat (go_big_quiet_step ((go_at_call 36; exact CB.out _)))
      refine wpQuiet_nil ?_
      rintro w5 ⟨n5, rfl⟩
      go_wp2_with fail
      go_roundw
      case rel => exact ⟨k + 1, by omega, by go_num, n5, rfl⟩
      case measure => simp [intOf]; omega
    · obtain rfl : k = l.length := by omega
      have d1 : decide ((l.length : Int) < (l.length : Int)) = false := decide_eq_false (by omega)
      go_wp2
      go_ret
      exact ⟨rfl, HB1.out.trans ((HB2.out.trans (n.below.mono HB2.out.size)).mono HB1.out.size)⟩
end Go.Proofs.YtcongfiojbajeaaK
