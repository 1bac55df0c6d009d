/- slices.Insert, the instances of this program: its three cases. Conditions: as in InsOk. -/
import Derived.Test.YtdhpolneplbhjaaGreatDoorDc
import Derived.Test.YtdhpolneplbhjaaGreatDoorProg
import Derived.Shelf.Spec.SlicesInsert
import Derived.Lib.AppendZerosOnto
import Derived.Laws.Externs
import Derived.WalkKit
namespace Go.Proofs.YtdhpolneplbhjaaGreatDoorI
open Go Go.RowKit Go.Lib Go.Proofs.YtdhpolneplbhjaaGreatDoorD
set_option linter.unusedVariables false
set_option linter.unusedSimpArgs false
def Hid2 (p : Prop) : Prop := p
theorem Hid2.out {p : Prop} (h : Hid2 p) : p := h
set_option maxHeartbeats 4000000 in
set_option maxRecDepth 100000 in
theorem last_u64 (A : Option Addr) (n cp : Nat) (a2 : Addr) (m vc : Nat) (w w' : World) (v : Value) (hm : 0 < m) (hn : n ≤ cp) (hA : A = none → n = 0 ∧ cp = 0) (hrun : (Builtin.append_ #[77, 77] 77 #[.slice A n cp, .slice (some a2) m vc]).run Tryz.prog w = .ok v w') :
    Calls Tryz.prog 51 #[.slice A n cp, .int .i64 (n : Int), .slice (some a2) m vc] w fun e' w2 => e' = .returned v ∧ w2 = w' := by
  have hz1 : ¬ ((m : Int) = 0) := by omega
  have mixed : Tryz.prog.follows .mixedOrders = true := by kernel_rfl
  go_enter Tryz.func51, Tryz.ntmps51
  cases A with
  | none =>
    obtain ⟨h0, h1⟩ := hA rfl
    subst h0 h1
    go_wp2_with (at_builtin; refine Lib.wpList_append_run _ rfl _ _ _ _ rfl _ _ rfl rfl _ _ hrun ?_)
    go_ret
    exact ⟨rfl, rfl⟩
  | some a =>
    obtain ⟨ab, ao, asp⟩ := a
    go_wp2_with (at_builtin; refine Lib.wpList_append_run _ rfl _ _ _ _ rfl _ _ rfl rfl _ _ hrun ?_)
    all_goals (go_ret; exact ⟨rfl, rfl⟩)
set_option maxHeartbeats 4000000 in
set_option maxRecDepth 100000 in
theorem room_u64 (c off n cp i c2 off2 m vc : Nat) (a a2 : Array Value) (e2 : TypeId) (fz fz2 : Nat × Nat) (w : World) (hoc : w.heap[c]? = some (.cells a 22 fz)) (hoc2 : w.heap[c2]? = some (.cells a2 e2 fz2)) (hne : c2 ≠ c) (hm : 0 < m) (hi : i < n) (hbig : (n + m) * (1 + 1) < 1000000)
    (hroom : n + m ≤ cp) (hfit : off + (n + m) * 1 ≤ a.size) (hfit2 : off2 + m * 1 ≤ a2.size) (hfz : ∀ j, off ≤ j → j < a.size → ¬(fz.1 ≤ j ∧ j < fz.2)) (h1 : ∀ v ∈ Cut a off (n * 1), v.oneCell' = true) (h2 : ∀ v ∈ Cut a2 off2 (m * 1), v.oneCell' = true) (hfz2 : fz2.1 = fz2.2 ∨ fz2.2 = 0) :
    Calls Tryz.prog 51 #[.slice (some ⟨c, off, none⟩) n cp, .int .i64 (i : Int), .slice (some ⟨c2, off2, none⟩) m vc] w fun e' w' =>
      e' = .returned (.slice (some ⟨c, off, none⟩) (n + m) cp) ∧ ∃ a', Upd c (.cells a' 22 fz) w w' ∧ a'.size = a.size ∧
        Cut a' off ((n + m) * 1) = (Cut a off (n * 1)).take (i * 1) ++ (Cut a2 off2 (m * 1) ++ (Cut a off (n * 1)).drop (i * 1)) := by
  have hi0 : (Tryz.prog.info? 22).map (·.size) = some 1 := by kernel_rfl
  obtain ⟨inf, hinf, hsz⟩ := Option.map_eq_some_iff.1 hi0
  clear hi0
  have hz1 : ¬ ((m : Int) = 0) := by omega
  have hz2 : ¬ ((i : Int) = (n : Int)) := by omega
  have mixed : Tryz.prog.follows .mixedOrders = true := by kernel_rfl
  have hov : ∀ lb cb, (callFunc 80 #[.slice (some ⟨c2, off2, none⟩) m vc, .slice (some ⟨c, off + (i + m), none⟩) lb cb]).run Tryz.prog w = .ok (.value (.bool false)) w := fun lb cb => by
    rw [run_callFunc_extern Tryz.func80 (by kernel_rfl) (by kernel_rfl) (by kernel_rfl) (e := Extern.SlicesOverlaps.overlaps #[77, 77] #[4]) (by kernel_rfl),
      Lib.run_overlaps_apart w 77 4 22 Tryz.underlying77 1 (fun w => by rw [run_size hinf, hsz]) ⟨c2, off2, none⟩ ⟨c, off + (i + m), none⟩ m vc lb cb hne e2 22 a2.size a.size (by unfold World.shape?; rw [hoc2]) (by unfold World.shape?; rw [hoc]) (by omega)
        (by unfold World.frozen?; rw [hoc2]; simp; omega) (by unfold World.frozen?; rw [hoc2]; simp; omega)]
    rfl
  have en : (i + m) * 1 + (n - i) * 1 = (n + m) * 1 := by omega
  obtain ⟨hc1, hu1⟩ := run_copyK (P := Tryz.prog) (t := 77) (e := 22) (sz := 1) w.drew (od := off + (i + m)) (ld := n + m - (i + m)) (os := off + i) (ls := n + m - i) (k := n - i) Tryz.underlying77 hinf hsz (show w.drew.heap[c]? = some (.cells a 22 fz) from hoc) (show w.drew.heap[c]? = some (.cells a 22 fz) from hoc) (by omega) (by omega) (by omega)
    (fun v hv => h1 v (by
      have : v ∈ (a.toList.drop (off + i)).take ((n - i) * 1) := hv
      have e : (a.toList.drop (off + i)).take ((n - i) * 1) = ((a.toList.drop off).take (n * 1)).drop (i * 1) := by
        rw [List.drop_take, List.drop_drop]; congr 1 <;> first | omega | (congr 1; omega)
      rw [e] at this
      exact List.mem_of_mem_drop this)) (fun j j1 j2 => hfz j (by omega) j2)
  obtain ⟨w1, hw1⟩ : ∃ w1, w1 = Go.Proofs.YtdhpolneplbhjaaGreatDoorD.stored Tryz.prog c (off + (i + m)) (Cut a (off + i) ((n - i) * 1)) w.drew := ⟨_, rfl⟩
  rw [← hw1] at hc1 hu1
  clear hw1
  have hs1 : (a.toList.take (off + (i + m)) ++ Cut a (off + i) ((n - i) * 1) ++ a.toList.drop (off + (i + m) + (n - i) * 1)).toArray.size = a.size := by
    simp [Cut]; omega
  have hoc2' : w1.heap[c2]? = some (.cells a2 e2 fz2) := by rw [hu1.other c2 hne]; exact hoc2
  have hc2 := fun (W : World) (hW : W.heap = w1.heap) => run_copyK (P := Tryz.prog) (t := 77) (e := 22) (sz := 1) W (od := off + i) (ld := n + m - i) (os := off2) (ls := m) (k := m) Tryz.underlying77 hinf hsz (show W.heap[c]? = _ by rw [hW]; exact hu1.same) (show W.heap[c2]? = some (.cells a2 e2 fz2) by rw [hW]; exact hoc2') (by omega) (by rw [hs1]; omega) (by omega) h2 (fun j j1 j2 => hfz j (by omega) (by rw [hs1] at j2; exact j2))
  have hcr := fun (W : World) (hW : W.heap = w1.heap) => (hc2 W hW).1
  have hcu : Hid2 (∀ W : World, W.heap = w1.heap → Upd c _ W _) := fun W hW => (hc2 W hW).2
  have HU1 : Hid2 (Upd c _ w.drew w1) := hu1
  have HOC : Hid2 (w.heap[c]? = some (.cells a 22 fz)) := hoc
  clear hu1 hc2 hoc2' hfz hfz2 h1 h2 hoc hoc2
  have hw1 : IntKind.i64.wrap ((i : Int) + (m : Int)) = (i : Int) + (m : Int) := by rw [IntKind.wrap_i64]; omega
  have hw2 : IntKind.i64.wrap ((n : Int) + (m : Int)) = (n : Int) + (m : Int) := by rw [IntKind.wrap_i64]; omega
  have hb1 : (0 : Int) ≤ (i : Int) + (m : Int) := by omega
  have hin : i ≤ n := by omega
  have htn : ((i : Int) + (m : Int)).toNat = i + m := by omega
  have hb2 : ¬ (cp = i + m) := by omega
  have hb3 : (i : Int) ≤ (n : Int) + (m : Int) := by omega
  have hb4 : ¬ (cp = i) := by omega
  go_enter Tryz.func51, Tryz.ntmps51
  go_wp2_with (simp only [hov])
  go_region_law_o (refine step_copy_runI rfl _ _ 77 77 rfl _ _ (by simp [Act.eval, Act.put]) (by simp [Act.eval, Act.put]) (hc1 _ _ _) ?_)
  go_wp2_with (at_builtin; refine wpList_copy_runI _ rfl _ _ 77 77 rfl _ _ rfl rfl (hcr _ rfl _ _ _) ?_)
  go_ret
  have hfin := hcu.out w1 rfl
  have hcs := cut_shift (a := a) (b := a2) (off := off) (n := n) (m := m) (i := i) (sz := 1) (off2 := off2) (a1 := (a.toList.take (off + (i + m)) ++ Cut a (off + i) ((n - i) * 1) ++ a.toList.drop (off + (i + m) + (n - i) * 1)).toArray)
    (a2 := ((a.toList.take (off + (i + m)) ++ Cut a (off + i) ((n - i) * 1) ++ a.toList.drop (off + (i + m) + (n - i) * 1)).toArray.toList.take (off + i) ++ Cut a2 off2 (m * 1) ++ (a.toList.take (off + (i + m)) ++ Cut a (off + i) ((n - i) * 1) ++ a.toList.drop (off + (i + m) + (n - i) * 1)).toArray.toList.drop (off + i + m * 1)).toArray)
    hin hfit hfit2 (by first | rfl | simp) (by first | rfl | simp)
  have hu := HU1.out.undrew
  simp only [Nat.mul_one] at hfin hcs hu ⊢
  exact ⟨rfl, _, hu.trans hfin (fun x e z h => by rw [HOC.out] at h; cases h; exact ⟨_, _, rfl, hcs.1⟩), hcs⟩
set_option maxHeartbeats 4000000 in
set_option maxRecDepth 100000 in
theorem grow_u64 (c off n cp i c2 off2 m vc : Nat) (a a2 : Array Value) (e2 : TypeId) (fz fz2 : Nat × Nat) (w : World) (hoc : w.heap[c]? = some (.cells a 22 fz)) (hoc2 : w.heap[c2]? = some (.cells a2 e2 fz2)) (hm : 0 < m) (hi : i < n) (hbig : (n + m) * (1 + 1) < 1000000) (hncp : n ≤ cp)
    (hroom : cp < n + m) (hfit : off + n * 1 ≤ a.size) (hfit2 : off2 + m * 1 ≤ a2.size) (h1 : ∀ v ∈ Cut a off (n * 1), v.oneCell' = true) (h2 : ∀ v ∈ Cut a2 off2 (m * 1), v.oneCell' = true) :
    Calls Tryz.prog 51 #[.slice (some ⟨c, off, none⟩) n cp, .int .i64 (i : Int), .slice (some ⟨c2, off2, none⟩) m vc] w fun e' w' =>
      ∃ (G : Nat) (a' : Array Value), e' = .returned (.slice (some ⟨w.heap.size, 0, none⟩) (n + m) G) ∧ n + m ≤ G ∧ w'.heap[w.heap.size]? = some (.cells a' 22 (0, 0)) ∧ a'.size = G * 1 ∧
        Cut a' 0 ((n + m) * 1) = (Cut a off (n * 1)).take (i * 1) ++ (Cut a2 off2 (m * 1) ++ (Cut a off (n * 1)).drop (i * 1)) ∧
        (∀ (k : Nat) (ok : Obj), w.heap[k]? = some ok → w'.heap[k]? = some ok) ∧ Below w.heap.size w w' := by
  have hi0 : (Tryz.prog.info? 22).map (fun j => (j.size, decide (j.bytes ≤ 1000), j.zero.map (·.cells.size))) = some (1, true, some 1) := by kernel_rfl
  obtain ⟨inf, hinf, hpar⟩ := Option.map_eq_some_iff.1 hi0
  clear hi0
  simp only [Prod.mk.injEq, decide_eq_true_eq] at hpar
  obtain ⟨hsz, hby, hzz⟩ := hpar
  obtain ⟨z, hz, hzs⟩ := Option.map_eq_some_iff.1 hzz
  clear hzz
  have hz1 : ¬ ((m : Int) = 0) := by omega
  have hz2 : ¬ ((i : Int) = (n : Int)) := by omega
  have hz3 : (cp : Int) < (n : Int) + (m : Int) := by omega
  have mixed : Tryz.prog.follows .mixedOrders = true := by kernel_rfl
  have hkk : (n : Int) + (m : Int) - (i : Int) = ((n + m - i : Nat) : Int) := by omega
  have hik : i + (n + m - i) = n + m := by omega
  have hcw : c < w.heap.size := (Array.getElem?_eq_some_iff.1 hoc).1
  have hc2w : c2 < w.heap.size := (Array.getElem?_eq_some_iff.1 hoc2).1
  have hold : (Builtin.firstCells inf.size i (.slice (some ⟨c, off, none⟩) i cp)).run Tryz.prog w.drew = .ok (Cut a off (i * 1)).toArray w.drew := by
    rw [hsz]
    simp only [Builtin.firstCells]
    exact run_read (show w.drew.heap[c]? = some (.cells a 22 fz) from hoc) (by omega)
  have hby1 : (n + m) * inf.bytes ≤ 1000000000 := by
    have : (n + m) * inf.bytes ≤ 1000000 * 1000 := Nat.mul_le_mul (by omega) hby
    omega
  have hby2 : (n + m - i) * inf.bytes ≤ (n + m) * inf.bytes := Nat.mul_le_mul_right _ (by omega)
  have hby3 : Builtin.nextslicecap (n + m) cp * inf.bytes ≤ 2 * ((n + m) * inf.bytes) := by
    have := Nat.mul_le_mul_right inf.bytes (nextslicecap_le hroom)
    rw [Nat.mul_assoc] at this
    exact this
  have hrz : ∀ ty, (Builtin.append_ #[77, 3] ty #[.slice (some ⟨c, off, none⟩) i cp, .int .i64 ((n : Int) + (m : Int) - (i : Int))]).run Tryz.prog w =
      .ok (.slice (some ⟨w.heap.size, 0, none⟩) (n + m) (grownCap w (n + m) cp 22)) (w.drew.alloc (.cells ((Cut a off (i * 1)).toArray ++ Builtin.zeroCells z.cells (n + m - i) ++ Builtin.zeroCells z.cells (grownCap w (n + m) cp 22 - (n + m))) 22)) := fun ty => by
    have h := Lib.run_append_grow_zeros w 77 3 ty 22 inf z .i64 .i64 Tryz.underlying77 Tryz.underlying3 hinf hz (some ⟨c, off, none⟩) i cp (Cut a off (i * 1)) hold (n + m - i) (by omega) (by omega) (by omega) (by omega) (by omega) (by rw [hik]; omega)
    rw [hik] at h
    rw [hkk]
    exact h
  obtain ⟨G, hG⟩ : ∃ G, G = grownCap w (n + m) cp 22 := ⟨_, rfl⟩
  have hGn : n + m ≤ G := by rw [hG]; exact grownCap_ge w _ _ _
  have hG63 : G ≤ 9223372036854775807 := by
    have := grownCap_le_maxLen w (n + m) cp 22 (by unfold maxLen; omega)
    rw [← hG] at this
    unfold maxLen at this
    omega
  rw [← hG] at hrz
  clear hG hold hby1 hby2 hby3
  obtain ⟨ROW, hROW⟩ : ∃ ROW : Array Value, ROW = (Cut a off (i * 1)).toArray ++ Builtin.zeroCells z.cells (n + m - i) ++ Builtin.zeroCells z.cells (G - (n + m)) := ⟨_, rfl⟩
  rw [← hROW] at hrz
  have hCl : (Cut a off (i * 1)).length = i * 1 := Cut_length (by omega)
  have hRs : ROW.size = G * 1 := by
    have hz0 : ∀ k, (Builtin.zeroCells z.cells k).size = k * 1 := fun k => by simp [Builtin.zeroCells, hzs]
    rw [hROW, Array.size_append, Array.size_append, List.size_toArray, hCl, hz0, hz0]
    omega
  have hRt : ROW.toList.take (i * 1) = Cut a off (i * 1) := by
    rw [hROW]
    simp only [Array.toList_append, List.append_assoc]
    rw [List.take_append_of_le_length (by rw [hCl]; exact Nat.le_refl _), List.take_of_length_le (by rw [hCl]; exact Nat.le_refl _)]
  obtain ⟨W1, hW1⟩ : ∃ W1, W1 = w.drew.alloc (.cells ROW 22) := ⟨_, rfl⟩
  rw [← hW1] at hrz
  have hN1 : W1.heap[w.heap.size]? = some (.cells ROW 22 (0, 0)) := by rw [hW1]; exact World.alloc_heap_new w.drew _
  have hold1 : ∀ (k : Nat) (ok : Obj), w.heap[k]? = some ok → W1.heap[k]? = some ok := fun k ok h => by rw [hW1]; exact alloc_old w.drew _ k ok h
  have hb1w : Below w.heap.size w W1 := by rw [hW1]; exact ((Below.refl w.heap.size w).drew).alloc (Nat.le_refl _) _
  clear hW1 hROW
  have hgs : (n + m) * 1 ≤ G * 1 := Nat.mul_le_mul_right _ hGn
  obtain ⟨hcA, huA⟩ := run_copyK (P := Tryz.prog) (t := 77) (e := 22) (sz := 1) W1 (od := i) (ld := n + m - i) (os := off2) (ls := m) (k := m) Tryz.underlying77 hinf hsz hN1 (hold1 c2 _ hoc2) (by omega) (by omega) (by omega) h2 (fun j _ _ h => by simp at h)
  obtain ⟨WA, hWA⟩ : ∃ W, W = Go.Proofs.YtdhpolneplbhjaaGreatDoorD.stored Tryz.prog w.heap.size (i) (Cut a2 off2 (m * 1)) W1 := ⟨_, rfl⟩
  rw [← hWA] at hcA huA
  clear hWA
  have hsA : (ROW.toList.take (i) ++ Cut a2 off2 (m * 1) ++ ROW.toList.drop (i + m * 1)).toArray.size = G * 1 := by
    have := Cut_length hfit2
    have hl : ROW.toList.length = ROW.size := by simp
    simp only [List.size_toArray, List.length_append, List.length_take, List.length_drop, this]
    omega
  have hcA1 : WA.heap[c]? = some (.cells a 22 fz) := by rw [huA.other c (by omega)]; exact hold1 c _ hoc
  obtain ⟨hcB, huB⟩ := run_copyK (P := Tryz.prog) (t := 77) (e := 22) (sz := 1) WA.drew (od := (i + m)) (ld := n + m - (i + m)) (os := off + i) (ls := n - i) (k := n - i) Tryz.underlying77 hinf hsz (show WA.drew.heap[w.heap.size]? = _ from huA.same) (show WA.drew.heap[c]? = some (.cells a 22 fz) from hcA1) (by omega) (by rw [hsA]; omega) (by omega)
    (fun v hv => h1 v (by
      have : v ∈ (a.toList.drop (off + i)).take ((n - i) * 1) := hv
      have e : (a.toList.drop (off + i)).take ((n - i) * 1) = ((a.toList.drop off).take (n * 1)).drop (i * 1) := by
        rw [List.drop_take, List.drop_drop]; congr 1 <;> first | omega | (congr 1; omega)
      rw [e] at this
      exact List.mem_of_mem_drop this)) (fun j _ _ h => by simp at h)
  obtain ⟨WB, hWB⟩ : ∃ W, W = Go.Proofs.YtdhpolneplbhjaaGreatDoorD.stored Tryz.prog w.heap.size ((i + m)) (Cut a (off + i) ((n - i) * 1)) WA.drew := ⟨_, rfl⟩
  rw [← hWB] at hcB huB
  clear hWB
  have hcut := cut_grow (a := a) (row := ROW) (b := a2) (off := off) (n := n) (m := m) (i := i) (sz := 1) (off2 := off2) (G := G) (r2 := (ROW.toList.take (i) ++ Cut a2 off2 (m * 1) ++ ROW.toList.drop (i + m * 1)).toArray)
    (r3 := ((ROW.toList.take (i) ++ Cut a2 off2 (m * 1) ++ ROW.toList.drop (i + m * 1)).toArray.toList.take ((i + m)) ++ Cut a (off + i) ((n - i) * 1) ++ (ROW.toList.take (i) ++ Cut a2 off2 (m * 1) ++ ROW.toList.drop (i + m * 1)).toArray.toList.drop ((i + m) + (n - i) * 1)).toArray)
    (by omega) hfit hfit2 hGn hRs hRt (by first | rfl | simp) (by first | rfl | simp)
  have HF : Hid2 (∃ a' : Array Value, WB.heap[w.heap.size]? = some (.cells a' 22 (0, 0)) ∧ a'.size = G * 1 ∧
        Cut a' 0 ((n + m) * 1) = (Cut a off (n * 1)).take (i * 1) ++ (Cut a2 off2 (m * 1) ++ (Cut a off (n * 1)).drop (i * 1)) ∧
        (∀ (k : Nat) (ok : Obj), w.heap[k]? = some ok → WB.heap[k]? = some ok) ∧ Below w.heap.size w WB) := by
    refine ⟨_, huB.same, hcut.1, hcut.2, fun k ok h => ?_, hb1w.trans ⟨?_, ?_, ?_, ?_, fun k hk => ?_⟩⟩
    · have hk := (Array.getElem?_eq_some_iff.1 h).1
      rw [huB.other k (by omega)]
      show WA.heap[k]? = some ok
      rw [huA.other k (by omega)]
      exact hold1 k ok h
    · exact huB.os.trans huA.os
    · exact huB.tape.trans huA.tape
    · exact huB.output.trans huA.output
    · have := huB.size; have h3 := huA.size; rw [this]; show W1.heap.size ≤ WA.heap.size; omega
    · rw [huB.other k (by omega)]
      show WA.heap[k]? = W1.heap[k]?
      exact huA.other k (by omega)
  clear hcut huB huA hcA1 hsA hgs hb1w hold1 hN1 hRt hRs hCl h1 h2 hoc hoc2
  have hGi : ¬ (G = i) := by omega
  have hGim : ¬ (G = i + m) := by omega
  have hci : ¬ (cp = i) := by omega
  have hw1 : IntKind.i64.wrap ((i : Int) + (m : Int)) = (i : Int) + (m : Int) := by rw [IntKind.wrap_i64]; omega
  have hb1 : (0 : Int) ≤ (i : Int) + (m : Int) := by omega
  have hin : i ≤ n := by omega
  have htn : ((i : Int) + (m : Int)).toNat = i + m := by omega
  have hb3 : (i : Int) ≤ (n : Int) := by omega
  clear hkk hik
  go_enter Tryz.func51, Tryz.ntmps51
  go_wp2_with (first
    | (at_builtin; refine Lib.wpList_append_run _ rfl _ _ _ _ rfl _ _ rfl rfl _ _ (hrz _) ?_)
    | (at_builtin; refine wpList_copy_runI _ rfl _ _ 77 77 rfl _ _ rfl rfl (hcA _ _ _) ?_))
  go_region_law_o (refine step_copy_runI rfl _ _ 77 77 rfl (.slice (some ⟨w.heap.size, (i + m), none⟩) (n + m - (i + m)) (G - (i + m))) (.slice (some ⟨c, off + i, none⟩) (n - i) (cp - i)) (by simp [Act.eval, Act.put]) (by simp [Act.eval, Act.put]) (hcB _ _ _) ?_)
  go_wp2
  go_ret
  obtain ⟨a', f1, f2, f3, f4, f5⟩ := HF.out
  exact ⟨G, a', rfl, hGn, f1, f2, f3, f4, f5⟩
theorem ins_u64 : InsOk Tryz.prog 51 77 22 1 where
  last := last_u64
  mid := fun c off n cp i c2 off2 m vc a a2 e2 fz fz2 w hoc hoc2 hne hm hi hncp hbig hfit hfitr hfit2 hfz h1 h2 hfz2 => by
    by_cases hroom : n + m ≤ cp
    · exact (room_u64 c off n cp i c2 off2 m vc a a2 e2 fz fz2 w hoc hoc2 hne hm hi hbig hroom (hfitr hroom) hfit2 hfz h1 h2 hfz2).mono fun e' w' hh => ⟨fun _ => hh, fun h => absurd hroom (by omega)⟩
    · refine (grow_u64 c off n cp i c2 off2 m vc a a2 e2 fz fz2 w hoc hoc2 hm hi hbig hncp (by omega) hfit hfit2 h1 h2).mono fun e' w' hh => ⟨fun h => absurd h hroom, fun _ => hh⟩

set_option maxHeartbeats 4000000 in
set_option maxRecDepth 100000 in
theorem last_done (A : Option Addr) (n cp : Nat) (a2 : Addr) (m vc : Nat) (w w' : World) (v : Value) (hm : 0 < m) (hn : n ≤ cp) (hA : A = none → n = 0 ∧ cp = 0) (hrun : (Builtin.append_ #[50, 50] 50 #[.slice A n cp, .slice (some a2) m vc]).run Tryz.prog w = .ok v w') :
    Calls Tryz.prog 22 #[.slice A n cp, .int .i64 (n : Int), .slice (some a2) m vc] w fun e' w2 => e' = .returned v ∧ w2 = w' := by
  have hz1 : ¬ ((m : Int) = 0) := by omega
  have mixed : Tryz.prog.follows .mixedOrders = true := by kernel_rfl
  go_enter Tryz.func22, Tryz.ntmps22
  cases A with
  | none =>
    obtain ⟨h0, h1⟩ := hA rfl
    subst h0 h1
    go_wp2_with (at_builtin; refine Lib.wpList_append_run _ rfl _ _ _ _ rfl _ _ rfl rfl _ _ hrun ?_)
    go_ret
    exact ⟨rfl, rfl⟩
  | some a =>
    obtain ⟨ab, ao, asp⟩ := a
    go_wp2_with (at_builtin; refine Lib.wpList_append_run _ rfl _ _ _ _ rfl _ _ rfl rfl _ _ hrun ?_)
    all_goals (go_ret; exact ⟨rfl, rfl⟩)
set_option maxHeartbeats 4000000 in
set_option maxRecDepth 100000 in
theorem room_done (c off n cp i c2 off2 m vc : Nat) (a a2 : Array Value) (e2 : TypeId) (fz fz2 : Nat × Nat) (w : World) (hoc : w.heap[c]? = some (.cells a 58 fz)) (hoc2 : w.heap[c2]? = some (.cells a2 e2 fz2)) (hne : c2 ≠ c) (hm : 0 < m) (hi : i < n) (hbig : (n + m) * (18 + 1) < 1000000)
    (hroom : n + m ≤ cp) (hfit : off + (n + m) * 18 ≤ a.size) (hfit2 : off2 + m * 18 ≤ a2.size) (hfz : ∀ j, off ≤ j → j < a.size → ¬(fz.1 ≤ j ∧ j < fz.2)) (h1 : ∀ v ∈ Cut a off (n * 18), v.oneCell' = true) (h2 : ∀ v ∈ Cut a2 off2 (m * 18), v.oneCell' = true) (hfz2 : fz2.1 = fz2.2 ∨ fz2.2 = 0) :
    Calls Tryz.prog 22 #[.slice (some ⟨c, off, none⟩) n cp, .int .i64 (i : Int), .slice (some ⟨c2, off2, none⟩) m vc] w fun e' w' =>
      e' = .returned (.slice (some ⟨c, off, none⟩) (n + m) cp) ∧ ∃ a', Upd c (.cells a' 58 fz) w w' ∧ a'.size = a.size ∧
        Cut a' off ((n + m) * 18) = (Cut a off (n * 18)).take (i * 18) ++ (Cut a2 off2 (m * 18) ++ (Cut a off (n * 18)).drop (i * 18)) := by
  have hi0 : (Tryz.prog.info? 58).map (·.size) = some 18 := by kernel_rfl
  obtain ⟨inf, hinf, hsz⟩ := Option.map_eq_some_iff.1 hi0
  clear hi0
  have hz1 : ¬ ((m : Int) = 0) := by omega
  have hz2 : ¬ ((i : Int) = (n : Int)) := by omega
  have mixed : Tryz.prog.follows .mixedOrders = true := by kernel_rfl
  have hov : ∀ lb cb, (callFunc 35 #[.slice (some ⟨c2, off2, none⟩) m vc, .slice (some ⟨c, off + (i + m) * 18, none⟩) lb cb]).run Tryz.prog w = .ok (.value (.bool false)) w := fun lb cb => by
    rw [run_callFunc_extern Tryz.func35 (by kernel_rfl) (by kernel_rfl) (by kernel_rfl) (e := Extern.SlicesOverlaps.overlaps #[50, 50] #[4]) (by kernel_rfl),
      Lib.run_overlaps_apart w 50 4 58 Tryz.underlying50 18 (fun w => by rw [run_size hinf, hsz]) ⟨c2, off2, none⟩ ⟨c, off + (i + m) * 18, none⟩ m vc lb cb hne e2 58 a2.size a.size (by unfold World.shape?; rw [hoc2]) (by unfold World.shape?; rw [hoc]) (by omega)
        (by unfold World.frozen?; rw [hoc2]; simp; omega) (by unfold World.frozen?; rw [hoc2]; simp; omega)]
    rfl
  have en : (i + m) * 18 + (n - i) * 18 = (n + m) * 18 := by omega
  obtain ⟨hc1, hu1⟩ := run_copyK (P := Tryz.prog) (t := 50) (e := 58) (sz := 18) w.drew (od := off + (i + m) * 18) (ld := n + m - (i + m)) (os := off + i * 18) (ls := n + m - i) (k := n - i) Tryz.underlying50 hinf hsz (show w.drew.heap[c]? = some (.cells a 58 fz) from hoc) (show w.drew.heap[c]? = some (.cells a 58 fz) from hoc) (by omega) (by omega) (by omega)
    (fun v hv => h1 v (by
      have : v ∈ (a.toList.drop (off + i * 18)).take ((n - i) * 18) := hv
      have e : (a.toList.drop (off + i * 18)).take ((n - i) * 18) = ((a.toList.drop off).take (n * 18)).drop (i * 18) := by
        rw [List.drop_take, List.drop_drop]; congr 1 <;> first | omega | (congr 1; omega)
      rw [e] at this
      exact List.mem_of_mem_drop this)) (fun j j1 j2 => hfz j (by omega) j2)
  obtain ⟨w1, hw1⟩ : ∃ w1, w1 = Go.Proofs.YtdhpolneplbhjaaGreatDoorD.stored Tryz.prog c (off + (i + m) * 18) (Cut a (off + i * 18) ((n - i) * 18)) w.drew := ⟨_, rfl⟩
  rw [← hw1] at hc1 hu1
  clear hw1
  have hs1 : (a.toList.take (off + (i + m) * 18) ++ Cut a (off + i * 18) ((n - i) * 18) ++ a.toList.drop (off + (i + m) * 18 + (n - i) * 18)).toArray.size = a.size := by
    simp [Cut]; omega
  have hoc2' : w1.heap[c2]? = some (.cells a2 e2 fz2) := by rw [hu1.other c2 hne]; exact hoc2
  have hc2 := fun (W : World) (hW : W.heap = w1.heap) => run_copyK (P := Tryz.prog) (t := 50) (e := 58) (sz := 18) W (od := off + i * 18) (ld := n + m - i) (os := off2) (ls := m) (k := m) Tryz.underlying50 hinf hsz (show W.heap[c]? = _ by rw [hW]; exact hu1.same) (show W.heap[c2]? = some (.cells a2 e2 fz2) by rw [hW]; exact hoc2') (by omega) (by rw [hs1]; omega) (by omega) h2 (fun j j1 j2 => hfz j (by omega) (by rw [hs1] at j2; exact j2))
  have hcr := fun (W : World) (hW : W.heap = w1.heap) => (hc2 W hW).1
  have hcu : Hid2 (∀ W : World, W.heap = w1.heap → Upd c _ W _) := fun W hW => (hc2 W hW).2
  have HU1 : Hid2 (Upd c _ w.drew w1) := hu1
  have HOC : Hid2 (w.heap[c]? = some (.cells a 58 fz)) := hoc
  clear hu1 hc2 hoc2' hfz hfz2 h1 h2 hoc hoc2
  have hw1 : IntKind.i64.wrap ((i : Int) + (m : Int)) = (i : Int) + (m : Int) := by rw [IntKind.wrap_i64]; omega
  have hw2 : IntKind.i64.wrap ((n : Int) + (m : Int)) = (n : Int) + (m : Int) := by rw [IntKind.wrap_i64]; omega
  have hb1 : (0 : Int) ≤ (i : Int) + (m : Int) := by omega
  have hin : i ≤ n := by omega
  have htn : ((i : Int) + (m : Int)).toNat = i + m := by omega
  have hb2 : ¬ (cp = i + m) := by omega
  have hb3 : (i : Int) ≤ (n : Int) + (m : Int) := by omega
  have hb4 : ¬ (cp = i) := by omega
  go_enter Tryz.func22, Tryz.ntmps22
  go_wp2_with (simp only [hov])
  go_region_law_o (refine step_copy_runI rfl _ _ 50 50 rfl _ _ (by simp [Act.eval, Act.put]) (by simp [Act.eval, Act.put]) (hc1 _ _ _) ?_)
  go_wp2_with (at_builtin; refine wpList_copy_runI _ rfl _ _ 50 50 rfl _ _ rfl rfl (hcr _ rfl _ _ _) ?_)
  go_ret
  have hfin := hcu.out w1 rfl
  have hcs := cut_shift (a := a) (b := a2) (off := off) (n := n) (m := m) (i := i) (sz := 18) (off2 := off2) (a1 := (a.toList.take (off + (i + m) * 18) ++ Cut a (off + i * 18) ((n - i) * 18) ++ a.toList.drop (off + (i + m) * 18 + (n - i) * 18)).toArray)
    (a2 := ((a.toList.take (off + (i + m) * 18) ++ Cut a (off + i * 18) ((n - i) * 18) ++ a.toList.drop (off + (i + m) * 18 + (n - i) * 18)).toArray.toList.take (off + i * 18) ++ Cut a2 off2 (m * 18) ++ (a.toList.take (off + (i + m) * 18) ++ Cut a (off + i * 18) ((n - i) * 18) ++ a.toList.drop (off + (i + m) * 18 + (n - i) * 18)).toArray.toList.drop (off + i * 18 + m * 18)).toArray)
    hin hfit hfit2 (by first | rfl | simp) (by first | rfl | simp)
  have hu := HU1.out.undrew
  exact ⟨rfl, _, hu.trans hfin (fun x e z h => by rw [HOC.out] at h; cases h; exact ⟨_, _, rfl, hcs.1⟩), hcs⟩
set_option maxHeartbeats 4000000 in
set_option maxRecDepth 100000 in
theorem grow_done (c off n cp i c2 off2 m vc : Nat) (a a2 : Array Value) (e2 : TypeId) (fz fz2 : Nat × Nat) (w : World) (hoc : w.heap[c]? = some (.cells a 58 fz)) (hoc2 : w.heap[c2]? = some (.cells a2 e2 fz2)) (hm : 0 < m) (hi : i < n) (hbig : (n + m) * (18 + 1) < 1000000) (hncp : n ≤ cp)
    (hroom : cp < n + m) (hfit : off + n * 18 ≤ a.size) (hfit2 : off2 + m * 18 ≤ a2.size) (h1 : ∀ v ∈ Cut a off (n * 18), v.oneCell' = true) (h2 : ∀ v ∈ Cut a2 off2 (m * 18), v.oneCell' = true) :
    Calls Tryz.prog 22 #[.slice (some ⟨c, off, none⟩) n cp, .int .i64 (i : Int), .slice (some ⟨c2, off2, none⟩) m vc] w fun e' w' =>
      ∃ (G : Nat) (a' : Array Value), e' = .returned (.slice (some ⟨w.heap.size, 0, none⟩) (n + m) G) ∧ n + m ≤ G ∧ w'.heap[w.heap.size]? = some (.cells a' 58 (0, 0)) ∧ a'.size = G * 18 ∧
        Cut a' 0 ((n + m) * 18) = (Cut a off (n * 18)).take (i * 18) ++ (Cut a2 off2 (m * 18) ++ (Cut a off (n * 18)).drop (i * 18)) ∧
        (∀ (k : Nat) (ok : Obj), w.heap[k]? = some ok → w'.heap[k]? = some ok) ∧ Below w.heap.size w w' := by
  have hi0 : (Tryz.prog.info? 58).map (fun j => (j.size, decide (j.bytes ≤ 1000), j.zero.map (·.cells.size))) = some (18, true, some 18) := by kernel_rfl
  obtain ⟨inf, hinf, hpar⟩ := Option.map_eq_some_iff.1 hi0
  clear hi0
  simp only [Prod.mk.injEq, decide_eq_true_eq] at hpar
  obtain ⟨hsz, hby, hzz⟩ := hpar
  obtain ⟨z, hz, hzs⟩ := Option.map_eq_some_iff.1 hzz
  clear hzz
  have hz1 : ¬ ((m : Int) = 0) := by omega
  have hz2 : ¬ ((i : Int) = (n : Int)) := by omega
  have hz3 : (cp : Int) < (n : Int) + (m : Int) := by omega
  have mixed : Tryz.prog.follows .mixedOrders = true := by kernel_rfl
  have hkk : (n : Int) + (m : Int) - (i : Int) = ((n + m - i : Nat) : Int) := by omega
  have hik : i + (n + m - i) = n + m := by omega
  have hcw : c < w.heap.size := (Array.getElem?_eq_some_iff.1 hoc).1
  have hc2w : c2 < w.heap.size := (Array.getElem?_eq_some_iff.1 hoc2).1
  have hold : (Builtin.firstCells inf.size i (.slice (some ⟨c, off, none⟩) i cp)).run Tryz.prog w.drew = .ok (Cut a off (i * 18)).toArray w.drew := by
    rw [hsz]
    simp only [Builtin.firstCells]
    exact run_read (show w.drew.heap[c]? = some (.cells a 58 fz) from hoc) (by omega)
  have hby1 : (n + m) * inf.bytes ≤ 1000000000 := by
    have : (n + m) * inf.bytes ≤ 1000000 * 1000 := Nat.mul_le_mul (by omega) hby
    omega
  have hby2 : (n + m - i) * inf.bytes ≤ (n + m) * inf.bytes := Nat.mul_le_mul_right _ (by omega)
  have hby3 : Builtin.nextslicecap (n + m) cp * inf.bytes ≤ 2 * ((n + m) * inf.bytes) := by
    have := Nat.mul_le_mul_right inf.bytes (nextslicecap_le hroom)
    rw [Nat.mul_assoc] at this
    exact this
  have hrz : ∀ ty, (Builtin.append_ #[50, 3] ty #[.slice (some ⟨c, off, none⟩) i cp, .int .i64 ((n : Int) + (m : Int) - (i : Int))]).run Tryz.prog w =
      .ok (.slice (some ⟨w.heap.size, 0, none⟩) (n + m) (grownCap w (n + m) cp 58)) (w.drew.alloc (.cells ((Cut a off (i * 18)).toArray ++ Builtin.zeroCells z.cells (n + m - i) ++ Builtin.zeroCells z.cells (grownCap w (n + m) cp 58 - (n + m))) 58)) := fun ty => by
    have h := Lib.run_append_grow_zeros w 50 3 ty 58 inf z .i64 .i64 Tryz.underlying50 Tryz.underlying3 hinf hz (some ⟨c, off, none⟩) i cp (Cut a off (i * 18)) hold (n + m - i) (by omega) (by omega) (by omega) (by omega) (by omega) (by rw [hik]; omega)
    rw [hik] at h
    rw [hkk]
    exact h
  obtain ⟨G, hG⟩ : ∃ G, G = grownCap w (n + m) cp 58 := ⟨_, rfl⟩
  have hGn : n + m ≤ G := by rw [hG]; exact grownCap_ge w _ _ _
  have hG63 : G ≤ 9223372036854775807 := by
    have := grownCap_le_maxLen w (n + m) cp 58 (by unfold maxLen; omega)
    rw [← hG] at this
    unfold maxLen at this
    omega
  rw [← hG] at hrz
  clear hG hold hby1 hby2 hby3
  obtain ⟨ROW, hROW⟩ : ∃ ROW : Array Value, ROW = (Cut a off (i * 18)).toArray ++ Builtin.zeroCells z.cells (n + m - i) ++ Builtin.zeroCells z.cells (G - (n + m)) := ⟨_, rfl⟩
  rw [← hROW] at hrz
  have hCl : (Cut a off (i * 18)).length = i * 18 := Cut_length (by omega)
  have hRs : ROW.size = G * 18 := by
    have hz0 : ∀ k, (Builtin.zeroCells z.cells k).size = k * 18 := fun k => by simp [Builtin.zeroCells, hzs]
    rw [hROW, Array.size_append, Array.size_append, List.size_toArray, hCl, hz0, hz0]
    omega
  have hRt : ROW.toList.take (i * 18) = Cut a off (i * 18) := by
    rw [hROW]
    simp only [Array.toList_append, List.append_assoc]
    rw [List.take_append_of_le_length (by rw [hCl]; exact Nat.le_refl _), List.take_of_length_le (by rw [hCl]; exact Nat.le_refl _)]
  obtain ⟨W1, hW1⟩ : ∃ W1, W1 = w.drew.alloc (.cells ROW 58) := ⟨_, rfl⟩
  rw [← hW1] at hrz
  have hN1 : W1.heap[w.heap.size]? = some (.cells ROW 58 (0, 0)) := by rw [hW1]; exact World.alloc_heap_new w.drew _
  have hold1 : ∀ (k : Nat) (ok : Obj), w.heap[k]? = some ok → W1.heap[k]? = some ok := fun k ok h => by rw [hW1]; exact alloc_old w.drew _ k ok h
  have hb1w : Below w.heap.size w W1 := by rw [hW1]; exact ((Below.refl w.heap.size w).drew).alloc (Nat.le_refl _) _
  clear hW1 hROW
  have hgs : (n + m) * 18 ≤ G * 18 := Nat.mul_le_mul_right _ hGn
  obtain ⟨hcA, huA⟩ := run_copyK (P := Tryz.prog) (t := 50) (e := 58) (sz := 18) W1 (od := i * 18) (ld := n + m - i) (os := off2) (ls := m) (k := m) Tryz.underlying50 hinf hsz hN1 (hold1 c2 _ hoc2) (by omega) (by omega) (by omega) h2 (fun j _ _ h => by simp at h)
  obtain ⟨WA, hWA⟩ : ∃ W, W = Go.Proofs.YtdhpolneplbhjaaGreatDoorD.stored Tryz.prog w.heap.size (i * 18) (Cut a2 off2 (m * 18)) W1 := ⟨_, rfl⟩
  rw [← hWA] at hcA huA
  clear hWA
  have hsA : (ROW.toList.take (i * 18) ++ Cut a2 off2 (m * 18) ++ ROW.toList.drop (i * 18 + m * 18)).toArray.size = G * 18 := by
    have := Cut_length hfit2
    have hl : ROW.toList.length = ROW.size := by simp
    simp only [List.size_toArray, List.length_append, List.length_take, List.length_drop, this]
    omega
  have hcA1 : WA.heap[c]? = some (.cells a 58 fz) := by rw [huA.other c (by omega)]; exact hold1 c _ hoc
  obtain ⟨hcB, huB⟩ := run_copyK (P := Tryz.prog) (t := 50) (e := 58) (sz := 18) WA.drew (od := (i + m) * 18) (ld := n + m - (i + m)) (os := off + i * 18) (ls := n - i) (k := n - i) Tryz.underlying50 hinf hsz (show WA.drew.heap[w.heap.size]? = _ from huA.same) (show WA.drew.heap[c]? = some (.cells a 58 fz) from hcA1) (by omega) (by rw [hsA]; omega) (by omega)
    (fun v hv => h1 v (by
      have : v ∈ (a.toList.drop (off + i * 18)).take ((n - i) * 18) := hv
      have e : (a.toList.drop (off + i * 18)).take ((n - i) * 18) = ((a.toList.drop off).take (n * 18)).drop (i * 18) := by
        rw [List.drop_take, List.drop_drop]; congr 1 <;> first | omega | (congr 1; omega)
      rw [e] at this
      exact List.mem_of_mem_drop this)) (fun j _ _ h => by simp at h)
  obtain ⟨WB, hWB⟩ : ∃ W, W = Go.Proofs.YtdhpolneplbhjaaGreatDoorD.stored Tryz.prog w.heap.size ((i + m) * 18) (Cut a (off + i * 18) ((n - i) * 18)) WA.drew := ⟨_, rfl⟩
  rw [← hWB] at hcB huB
  clear hWB
  have hcut := cut_grow (a := a) (row := ROW) (b := a2) (off := off) (n := n) (m := m) (i := i) (sz := 18) (off2 := off2) (G := G) (r2 := (ROW.toList.take (i * 18) ++ Cut a2 off2 (m * 18) ++ ROW.toList.drop (i * 18 + m * 18)).toArray)
    (r3 := ((ROW.toList.take (i * 18) ++ Cut a2 off2 (m * 18) ++ ROW.toList.drop (i * 18 + m * 18)).toArray.toList.take ((i + m) * 18) ++ Cut a (off + i * 18) ((n - i) * 18) ++ (ROW.toList.take (i * 18) ++ Cut a2 off2 (m * 18) ++ ROW.toList.drop (i * 18 + m * 18)).toArray.toList.drop ((i + m) * 18 + (n - i) * 18)).toArray)
    (by omega) hfit hfit2 hGn hRs hRt (by first | rfl | simp) (by first | rfl | simp)
  have HF : Hid2 (∃ a' : Array Value, WB.heap[w.heap.size]? = some (.cells a' 58 (0, 0)) ∧ a'.size = G * 18 ∧
        Cut a' 0 ((n + m) * 18) = (Cut a off (n * 18)).take (i * 18) ++ (Cut a2 off2 (m * 18) ++ (Cut a off (n * 18)).drop (i * 18)) ∧
        (∀ (k : Nat) (ok : Obj), w.heap[k]? = some ok → WB.heap[k]? = some ok) ∧ Below w.heap.size w WB) := by
    refine ⟨_, huB.same, hcut.1, hcut.2, fun k ok h => ?_, hb1w.trans ⟨?_, ?_, ?_, ?_, fun k hk => ?_⟩⟩
    · have hk := (Array.getElem?_eq_some_iff.1 h).1
      rw [huB.other k (by omega)]
      show WA.heap[k]? = some ok
      rw [huA.other k (by omega)]
      exact hold1 k ok h
    · exact huB.os.trans huA.os
    · exact huB.tape.trans huA.tape
    · exact huB.output.trans huA.output
    · have := huB.size; have h3 := huA.size; rw [this]; show W1.heap.size ≤ WA.heap.size; omega
    · rw [huB.other k (by omega)]
      show WA.heap[k]? = W1.heap[k]?
      exact huA.other k (by omega)
  clear hcut huB huA hcA1 hsA hgs hb1w hold1 hN1 hRt hRs hCl h1 h2 hoc hoc2
  have hGi : ¬ (G = i) := by omega
  have hGim : ¬ (G = i + m) := by omega
  have hci : ¬ (cp = i) := by omega
  have hw1 : IntKind.i64.wrap ((i : Int) + (m : Int)) = (i : Int) + (m : Int) := by rw [IntKind.wrap_i64]; omega
  have hb1 : (0 : Int) ≤ (i : Int) + (m : Int) := by omega
  have hin : i ≤ n := by omega
  have htn : ((i : Int) + (m : Int)).toNat = i + m := by omega
  have hb3 : (i : Int) ≤ (n : Int) := by omega
  clear hkk hik
  go_enter Tryz.func22, Tryz.ntmps22
  go_wp2_with (first
    | (at_builtin; refine Lib.wpList_append_run _ rfl _ _ _ _ rfl _ _ rfl rfl _ _ (hrz _) ?_)
    | (at_builtin; refine wpList_copy_runI _ rfl _ _ 50 50 rfl _ _ rfl rfl (hcA _ _ _) ?_))
  go_region_law_o (refine step_copy_runI rfl _ _ 50 50 rfl (.slice (some ⟨w.heap.size, (i + m) * 18, none⟩) (n + m - (i + m)) (G - (i + m))) (.slice (some ⟨c, off + i * 18, none⟩) (n - i) (cp - i)) (by simp [Act.eval, Act.put]) (by simp [Act.eval, Act.put]) (hcB _ _ _) ?_)
  go_wp2
  go_ret
  obtain ⟨a', f1, f2, f3, f4, f5⟩ := HF.out
  exact ⟨G, a', rfl, hGn, f1, f2, f3, f4, f5⟩
theorem ins_done : InsOk Tryz.prog 22 50 58 18 where
  last := last_done
  mid := fun c off n cp i c2 off2 m vc a a2 e2 fz fz2 w hoc hoc2 hne hm hi hncp hbig hfit hfitr hfit2 hfz h1 h2 hfz2 => by
    by_cases hroom : n + m ≤ cp
    · exact (room_done c off n cp i c2 off2 m vc a a2 e2 fz fz2 w hoc hoc2 hne hm hi hbig hroom (hfitr hroom) hfit2 hfz h1 h2 hfz2).mono fun e' w' hh => ⟨fun _ => hh, fun h => absurd hroom (by omega)⟩
    · refine (grow_done c off n cp i c2 off2 m vc a a2 e2 fz fz2 w hoc hoc2 hm hi hbig hncp (by omega) hfit hfit2 h1 h2).mono fun e' w' hh => ⟨fun h => absurd h hroom, fun _ => hh⟩
end Go.Proofs.YtdhpolneplbhjaaGreatDoorI
