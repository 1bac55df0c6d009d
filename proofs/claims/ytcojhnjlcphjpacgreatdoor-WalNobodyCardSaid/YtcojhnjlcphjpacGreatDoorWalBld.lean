/- The functions of Go's library that the small machine takes whole, in this program: a builder's check and text, a byte's place. Conditions: none. -/
import Derived.Test.YtcojhnjlcphjpacGreatDoorDc
import Derived.Test.YtcojhnjlcphjpacGreatDoorProg
import Derived.Shelf.RegionOpenPlain
import Derived.Lib.Walk
import Derived.Lib.Builder
import Derived.Lib.UnsafeStr
import Derived.WalkKit
import Derived.Laws.Externs
namespace Go.Proofs.YtcojhnjlcphjpacGreatDoorM
open Go Go.RowKit Go.Proofs.YtcojhnjlcphjpacGreatDoorD
set_option linter.unusedVariables false
set_option linter.unusedSimpArgs false
theorem okP : progOkB Tryz.prog = true := by decide +kernel
set_option maxRecDepth 100000 in
theorem check_used (c : Nat) (w : World) (h0 : w.cell? ⟨c, 0, none⟩ = some (.pointer (some ⟨c, 0, none⟩))) :
    Calls Tryz.prog 57 #[.pointer (some ⟨c, 0, none⟩)] w fun e w' => e = .returned (.tuple #[]) ∧ w' = w := by
  have hj0 : (Tryz.prog.info? 80).map (·.size) = some 2 := by kernel_rfl
  obtain ⟨j, hj, _⟩ := Option.map_eq_some_iff.1 hj0
  clear hj0
  go_enter Tryz.func57, Tryz.ntmps57
  go_wp2
  rw [Lib.run_neq_ptr_same w _ Tryz.underlying77 hj]
  go_wp2
  go_end0
  exact ⟨rfl, rfl⟩
set_option maxRecDepth 100000 in
theorem check_fresh (c : Nat) (w : World) (h0 : w.cell? ⟨c, 0, none⟩ = some (.pointer none)) (hsh : w.shape? c = some (80, 2)) (hfz : w.frozen? ⟨c, 0, none⟩ = false) :
    Calls Tryz.prog 57 #[.pointer (some ⟨c, 0, none⟩)] w fun e w' => e = .returned (.tuple #[]) ∧ w' = w.setCell ⟨c, 0, none⟩ (.pointer (some ⟨c, 0, none⟩)) := by
  have hj0 : (Tryz.prog.info? 80).map (·.size) = some 2 := by kernel_rfl
  obtain ⟨j, hj, hjs⟩ := Option.map_eq_some_iff.1 hj0
  have hlies : liesAt Tryz.prog Tryz.prog.depth 80 (2 / Tryz.prog.cellsOf 80) 0 80 1 = true := by kernel_rfl
  clear hj0
  go_enter Tryz.func57, Tryz.ntmps57
  go_wp2
  rw [Lib.run_to_unsafe w ⟨c, 0, none⟩ Tryz.underlying77 Tryz.underlying129 hj (by rw [hjs]; decide) hsh (Nat.zero_lt_succ 1)]
  simp only [Result.andThen]
  rw [Oper.upon_value]
  go_wp2
  rw [run_callFunc_extern Tryz.func90 (by kernel_rfl) (by kernel_rfl) (by kernel_rfl) (e := Extern.AbiNoEscape.same) (by kernel_rfl)]
  rw [Lib.run_noEscape]
  simp only [Result.andThen]
  rw [Oper.upon_value]
  go_wp2
  rw [Lib.run_from_unsafe w ⟨c, 0, none⟩ Tryz.underlying129 Tryz.underlying77 hj hsh hlies]
  simp only [Result.andThen]
  rw [Oper.upon_value]
  go_wp2
  go_end0
  exact ⟨rfl, rfl⟩
set_option maxHeartbeats 2000000 in
set_option maxRecDepth 100000 in
theorem str_none (c o : Nat) (w : World) (h0 : w.cell? ⟨c, o + 1, none⟩ = some (.slice none 0 0)) :
    Calls Tryz.prog 41 #[.pointer (some ⟨c, o, none⟩)] w fun e w' => e = .returned (.string .empty) ∧ w' = w.drew := by
  have c1 : w.drew.cell? ⟨c, o + 1, none⟩ = some (.slice none 0 0) := h0
  have hSD : (Builtin.unsafeSliceData_ #[78] 106 #[.slice none 0 0]).run Tryz.prog w.drew = .ok (.pointer none) w.drew := Lib.run_unsafeSliceData_nil _ _ _ _ _
  have hUS : (Builtin.unsafeString_ #[106, 3] 9 #[.pointer none, .int .i64 0]).run Tryz.prog w.drew = .ok (.string .empty) w.drew := Lib.run_unsafeString_none _ _ _ _ none
  have mixed : Tryz.prog.follows .mixedOrders = true := by kernel_rfl
  go_enter Tryz.func41, Tryz.ntmps41
  go_wp2
  go_region_o
  all_goals (go_wp2; go_ret; exact ⟨rfl, rfl⟩)
set_option maxHeartbeats 2000000 in
set_option maxRecDepth 100000 in
theorem str_full (c o g off cp cells : Nat) (l : List UInt8) (w : World) (h1 : w.cell? ⟨c, o + 1, none⟩ = some (.slice (some ⟨g, off, none⟩) l.length cp)) (hne : l ≠ []) (hcp : l.length ≤ cp) (hsh : w.shape? g = some (5, cells)) (hoff : off + l.length ≤ cells) (h63 : l.length ≤ 9223372036854775807)
    (hcell : ∀ j x, l[j]? = some x → w.cell? ((⟨g, off, none⟩ : Addr).add j) = some (.int .u8 x.toNat)) :
    Calls Tryz.prog 41 #[.pointer (some ⟨c, o, none⟩)] w fun e w' => e = .returned (.string ⟨l.toArray⟩) ∧ w' = w.drew.freeze ⟨g, off, none⟩ l.length := by
  have hl0 : l.length ≠ 0 := by simpa using hne
  have c1 : w.drew.cell? ⟨c, o + 1, none⟩ = some (.slice (some ⟨g, off, none⟩) l.length cp) := h1
  have hSD : (Builtin.unsafeSliceData_ #[78] 106 #[.slice (some ⟨g, off, none⟩) l.length cp]).run Tryz.prog w.drew = .ok (.pointer (some ⟨g, off, none⟩)) w.drew := Lib.run_unsafeSliceData_row _ _ _ _ _ _ (by omega)
  have hUS : (Builtin.unsafeString_ #[106, 3] 9 #[.pointer (some ⟨g, off, none⟩), .int .i64 l.length]).run Tryz.prog w.drew = .ok (.string ⟨l.toArray⟩) (w.drew.freeze ⟨g, off, none⟩ l.length) :=
    run_str_at w.drew 106 3 9 5 Tryz.underlying106 (by kernel_rfl) g off cells hsh l hne hoff h63 hcell
  clear hcell
  have mixed : Tryz.prog.follows .mixedOrders = true := by kernel_rfl
  go_enter Tryz.func41, Tryz.ntmps41
  go_wp2
  go_region_o
  all_goals (go_wp2; go_ret; exact ⟨rfl, rfl⟩)
theorem check_plug {nb base : Nat} {w0 : World} : Plug1 Tryz.prog nb base w0 57 (pCheck 80) :=
  pCheck_ok Tryz.func57 (by kernel_rfl) (by intro h; exact absurd h (by decide)) check_used check_fresh
theorem str_plug {nb base : Nat} {w0 : World} : Plug1 Tryz.prog nb base w0 41 (pStr 5) :=
  pStr_ok Tryz.func41 (by kernel_rfl) (by intro h; exact absurd h (by decide)) str_none str_full
theorem ext_of {f : Nat} {fn : Func} {e : Array Value → Sem Value} (hf : Tryz.prog.funcs[f]? = some fn) (h1 : (fn.name == "runtime.NumGoroutine") = false) (h2 : fn.body.isNone = true) (h3 : Extern.findNext fn = none) (h4 : Extern.find fn = some e) (args : Array Value) (w : World) :
    (callFunc f args).run Tryz.prog w = (do pure (.value (← e args)) : Sem Next).run Tryz.prog w := by
  rw [run_callFunc_extern hf h1 h2 h3 h4, Sem.run_bind]
  rfl
theorem index_ext {nb base : Nat} {w0 : World} : Ext1 Tryz.prog nb base w0 140 pIndexByte :=
  pIndexByte_ok fun args w => ext_of Tryz.func140 (by kernel_rfl) (by kernel_rfl) (by kernel_rfl) (by kernel_rfl) args w
end Go.Proofs.YtcojhnjlcphjpacGreatDoorM
