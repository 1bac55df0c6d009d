/- The disk: Names: the walk. Conditions: the state is small. -/
import Derived.Test.YtcongfiojbajeaaDiskCrash
import Derived.Test.YtcongfiojbajeaaShelf
import Derived.RangeFuncGives
namespace Go.Proofs.YtcongfiojbajeaaK
open Go Go.RowKit Go.Maps Go.Sort Go.Shelf Go.Proofs.YtcongfiojbajeaaM Go.Proofs.YtcongfiojbajeaaW.PrintWords Go.Proofs.YtcongfiojbajeaaN
variable {lo : Nat}
set_option linter.unusedVariables false
set_option linter.unusedSimpArgs false
theorem sortsK (m : Nat) : AnyZ.SortsIn Try.prog Try.sorted51_ren Fence.wide m :=
  ⟨fun blk off cap ss W hH hblk hsz => callsIn_wide.2 (AnyM.slices_Sort_string Try.sort60 blk off cap ss W hH hblk hsz),
   fun p cap W => callsIn_wide.2 (AnyM.slices_Sort_string_none Try.sort60 p cap W)⟩

theorem mapsKeys (mb : Option Nat) (W : World) : CallsIn Fence.wide 5 Try.prog 52 #[.map mb] W fun e w' => e = .returned (.func (.func 61) #[] #[.pointer (some ⟨W.heap.size, 0, none⟩)]) ∧ w' = W.alloc (.cells #[.map mb] 59) :=
  AnyZ.keys_in Try.keys52 Fence.wide 5 trivial rfl mb W

set_option maxHeartbeats 1000000 in
theorem sortedKeys {H : Type} (b nn : Nat) (D0 : DataW H) (R : Value → Option (DataW H × List MemPlace)) (w : World) (hown : w.ownsMap Try.prog 9 R b nn D0) (hmax : Maps.size D0 ≤ maxLen) (hbytes : Maps.size D0 * 16 ≤ 140737488355328) :
    CallsIn Fence.wide 5 Try.prog 51 #[.func (.func 61) #[] #[.pointer (some ⟨w.heap.size, 0, none⟩)]] (w.alloc (.cells #[.map (some b)] 59)) fun e w' => ∃ (v : Value) (ss : List (List UInt8)), e = .returned v ∧ ss.Perm (strKeys D0) ∧
      w'.ownsRow (w.alloc (.cells #[.map (some b)] 59)).heap.size 9 1 v ss.length ((ss.mergeSort (fun x y => decide (x ≤ y))).map encStr) ∧ (v = .slice none 0 0 ↔ ss = []) ∧ Below (w.alloc (.cells #[.map (some b)] 59)).heap.size (w.alloc (.cells #[.map (some b)] 59)) w' := by
  have hbl := hown.lt
  have hseq : SeqGives Fence.wide 2 Try.prog 61 #[.pointer (some ⟨w.heap.size, 0, none⟩)] encStr (fun ss => ss.Perm (strKeys D0)) (Maps.size D0) (w.alloc (.cells #[.map (some b)] 59)) :=
    AnyZ.keys_gives (ρ := Try.keys52_ren) { Try.keys52 with } Fence.wide _ trivial rfl (by omega) w.heap.size b nn D0 _ (by simp) (by simp) (by
      obtain ⟨es, clock, hb, Ft, hs, hD⟩ := hown
      exact ⟨es, clock, (Below.heap_alloc _ _ b hbl).trans hb, Ft, hs, hD⟩)
  exact AnyZ.sorted_in Try.sorted51 Fence.wide 5 trivial trivial trivial trivial rfl (by omega) (sortsK _) (enters_of Try.func60 (by kernel_rfl) rfl) 61 #[.pointer (some ⟨w.heap.size, 0, none⟩)] trivial (enters_of Try.func61 (by kernel_rfl) rfl) _ _ hmax hbytes _ hseq


/-- The names of a row that rises are in order already. -/
theorem names_sorted {ν : Type} {L : List (ByteArray × ν)} (hr : Rises L) : (L.map fun p => p.1.data.toList).mergeSort (fun x y => decide (x ≤ y)) = L.map fun p => p.1.data.toList := by
  refine List.mergeSort_of_pairwise ?_
  rw [List.pairwise_map]
  refine hr.imp fun {p q} h => ?_
  have h1 : Op.bytesLess p.1.data.toList q.1.data.toList = true := by
    have h2 := h
    unfold ltB at h2
    rw [ByteArray.toList_eq, ByteArray.toList_eq] at h2
    exact h2
  rw [bytesLess_eq] at h1
  simp only [decide_eq_true_eq] at h1 ⊢
  exact List.le_of_lt h1
theorem names_nodup {ν : Type} {L : List (ByteArray × ν)} (hr : Rises L) : (L.map fun p => p.1.data.toList).Nodup := by
  unfold List.Nodup
  rw [List.pairwise_map]
  refine hr.imp fun {p q} h e => ?_
  have : p.1 = q.1 := bytes_same (by rw [ByteArray.toList_eq, ByteArray.toList_eq]; exact e)
  exact ltB_ne h this
section
variable {w : World} {db mb : Nat} {L : List (ByteArray × FE)} {room next : Int} {power : Bool} {σ : PD}
set_option maxHeartbeats 2000000 in
set_option maxRecDepth 100000 in
theorem names_any (hD : IsDisk lo w db mb L room power next) (hlen : L.length ≤ 1000000) :
    Calls Try.prog 31 #[.pointer (some ⟨db, 0, none⟩)] w fun e w' => ∃ v, e = .returned v ∧ Kd.R Kd.string 9 w' w.heap.size (fun _ => True) v (L.map (·.1)) ∧ Below w.heap.size w w' := by
  have x0 : w.cell? ⟨db, 0, none⟩ = some (.map (some mb)) := cell_in hD.obj.cells 0
  obtain ⟨D, hown, hrep⟩ := hD.obj.map
  have hsz : Maps.size D = L.length := by rw [hrep.size, mapV_len]
  have hcol : Collected D (fun _ => false) (L.map fun p => p.1.data.toList) := by
    refine ⟨names_nodup hD.rises, fun x => ?_⟩
    have h1 := hrep.has ⟨⟨x⟩⟩
    have h2 : ekS ⟨⟨x⟩⟩ = .string x := rfl
    rw [h2] at h1
    rw [h1, ← keys_mem, mapV_keys]
    constructor
    · intro h
      obtain ⟨p, hp, rfl⟩ := List.mem_map.1 h
      exact ⟨List.mem_map.2 ⟨p, hp, rfl⟩, rfl⟩
    · rintro ⟨h, _⟩
      obtain ⟨p, hp, h3⟩ := List.mem_map.1 h
      refine List.mem_map.2 ⟨p, hp, ?_⟩
      rw [h3]
  have hperm := hcol.perm hown lawS Try.underlying9 (fun _ => rfl)
  have HP := Lib.hid hperm
  have HR := Lib.hid hD.rises
  have hmax : Maps.size D ≤ maxLen := by rw [hsz]; unfold maxLen; omega
  have hbytes : Maps.size D * 16 ≤ 140737488355328 := by rw [hsz]; omega
  clear hD hrep hcol hperm hsz
  refine (callsIn_wide (n := 6)).1 ?_
  have hfK : Fence.wide.fn 52 := trivial
  have hfS : Fence.wide.fn 51 := trivial
  refine callsIn_of_wp Try.func31 rfl trivial ?_ rfl
  simp only [Try.ntmps31, List.size_toArray, List.length_cons, List.length_nil, Nat.reduceAdd, Nat.reduceSub, Array.replicate_succ, Array.replicate_zero, List.push_toArray, List.append_toArray, List.nil_append, List.cons_append]
  gi_wp2_with (first
    | (gi_at_call 52; refine (mapsKeys _ _).mono ?_; rintro e w' ⟨rfl, rfl⟩)
    | (gi_at_call 51; refine (sortedKeys mb _ D heldElem w hown hmax hbytes).mono ?_; rintro e w' ⟨v, ss, rfl, hS, hrow, hnil, hb⟩))
  go_ret
  refine ⟨v, rfl, ?_, ((Below.refl _ w).alloc (Nat.le_refl _) _).trans (hb.mono (by simp))⟩
  have hsort : ss.mergeSort (fun x y => decide (x ≤ y)) = L.map fun p => p.1.data.toList := by
    rw [mergeSort_of_perm (hS.trans HP.out.symm)]
    exact names_sorted HR.out
  have hl : ss.length = (L.map (·.1)).length := by
    have := congrArg List.length hsort
    rw [List.length_mergeSort, List.length_map] at this
    rw [this, List.length_map]
  rw [hsort, hl] at hrow
  have : (L.map fun p => p.1.data.toList).map encStr = encs Value.string (L.map (·.1)) := by
    unfold encs
    rw [List.map_map, List.map_map]
    rfl
  rw [this] at hrow
  exact Kd.R_of_own (enc := Value.string) (ownsRow_base_a hrow (by simp)) (fun _ _ => trivial)
theorem names_d (h : IsD lo w db σ) (hf : σ.Fit) : Calls Try.prog 31 #[.pointer (some ⟨db, 0, none⟩)] w fun e w' => ∃ v, e = .returned v ∧ Kd.R Kd.string 9 w' w.heap.size (fun _ => True) v (σ.files.map (·.1)) ∧ Below w.heap.size w w' := by
  obtain ⟨mb, L, hL, hD⟩ := h
  rw [hL, mapV_keys]
  exact names_any hD (by have := hf.len; rw [hL, mapV_len] at this; exact this)
end
end Go.Proofs.YtcongfiojbajeaaK
