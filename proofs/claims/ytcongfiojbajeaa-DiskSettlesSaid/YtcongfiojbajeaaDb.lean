/- The small machine, a text of 14 parts: a program's run on related heaps. Conditions: none. -/
import Derived.Laws.Cells
import Derived.Laws.Entries
import Derived.Lib.Bytes
import Derived.Laws.StructEq
import Derived.MapKept
import Derived.Laws.Append
import Derived.Laws.BytesArg
import Derived.Laws.BytesString
import Derived.Lib.ConvBytes
import Derived.Test.YtcongfiojbajeaaDa
/- Operation by operation: what the small machine does is what Go's memory does: types, constants, loads, stores. Conditions: none. -/
namespace Go.Proofs.YtcongfiojbajeaaD
open Go Go.RowKit
set_option linter.unusedVariables false
set_option linter.unusedSimpArgs false

structure EOk (P : Program) (E : Env) : Prop where
  fns : ∀ f fn, T.get E.fns (f + 1) = some fn → P.funcs[f]? = some fn ∧ fn.name ≠ "runtime.NumGoroutine" ∧ ∀ c, fn.body = some c → codeOkB c = true
  tys : ∀ t i, T.get E.tys (t + 1) = some i → P.info? t = some i
  mixed : P.follows .mixedOrders = true
  flds : ∀ t, T.get E.tys (t + 1) ≠ none → ∀ fs, P.underlying t = some (.struct fs) → ∀ f ∈ fs.toList, ∃ i, P.info? f.type = some i

def Sim {α β : Type} (P : Program) (nb base : Nat) (w0 : World) (ρ : Rho) (w : World) (sem : Sem α) (m : (β → HM) → HM) (R : Rho → β → α → Prop) : Prop :=
  ∀ (c : β → HM) (s : St) (outs : Outs), Ok nb (m c) s outs → Rel P nb base w0 ρ s.h w →
    ∃ (ρ' : Rho) (w' : World) (x : β) (y : α) (s' : St), ρ.le ρ' ∧ sem.run P w = .ok y w' ∧ Rel P nb base w0 ρ' s'.h w' ∧ R ρ' x y ∧ Ok nb (c x) s' outs

variable {P : Program} {E : Env} {nb base : Nat} {w0 w : World} {ρ : Rho} {s : St} {outs : Outs}
/-- A value that is there at once. -/
theorem Sim.pure {α β : Type} {sem : Sem α} {R : Rho → β → α → Prop} (x : β) (y : α) (hr : sem.run P w = .ok y w) (h : R ρ x y) : Sim P nb base w0 ρ w sem (fun c => c x) R :=
  fun c s outs ho r => ⟨ρ, w, x, y, s, ρ.le_refl, hr, r, h, ho⟩
theorem Sim.fail {α β : Type} {sem : Sem α} {R : Rho → β → α → Prop} : Sim P nb base w0 ρ w sem (fun _ : β → HM => .fail) R :=
  fun c s outs ho r => (Ok_fail ho).elim

/-! ### types -/
theorem Ok_ti (he : EOk P E) {t : Nat} {k : TypeInfo → HM} (h : Ok nb (ti E t k) s outs) : ∃ i, P.info? t = some i ∧ Ok nb (k i) s outs := by
  have e : ti E t k = Option.rec .fail k (T.get E.tys (t + 1)) := by cases E; rfl
  rw [e] at h
  cases hg : T.get E.tys (t + 1) with
  | none => rw [hg] at h; exact (Ok_fail h).elim
  | some i => rw [hg] at h; exact ⟨i, he.tys t i hg, h⟩
theorem Ok_desc (he : EOk P E) {t : Nat} {k : TypeDesc → HM} (h : Ok nb (desc E t k) s outs) : ∃ d, P.underlying t = some d ∧ Ok nb (k d) s outs := by
  unfold desc at h
  obtain ⟨i, hi, h⟩ := Ok_ti he h
  cases i with
  | mk d a b c e f g z m o =>
    simp only at h
    unfold Program.underlying
    rw [hi]
    cases d with
    | named n u =>
      simp only at h
      obtain ⟨j, hj, h⟩ := Ok_ti he h
      refine ⟨j.desc, by simp [hj], ?_⟩
      cases j; exact h
    | _ => exact ⟨_, rfl, h⟩
theorem Ok_known {t : Nat} {k : TypeDesc → HM} (h : Ok nb (desc E t k) s outs) : T.get E.tys (t + 1) ≠ none := by
  intro hg
  unfold desc at h
  have e : ∀ k, ti E t k = Option.rec .fail k (T.get E.tys (t + 1)) := by intro k; cases E; rfl
  rw [e, hg] at h
  exact Ok_fail h
theorem Ok_size (he : EOk P E) {t : Nat} {k : Nat → HM} (h : Ok nb (size E t k) s outs) : ∃ i, P.info? t = some i ∧ Ok nb (k i.size) s outs := by
  unfold YtcongfiojbajeaaD.size at h
  obtain ⟨i, hi, h⟩ := Ok_ti he h
  exact ⟨i, hi, by cases i; exact h⟩
theorem Ok_sizeB (he : EOk P E) {t : Nat} {k : Nat → Nat → HM} (h : Ok nb (sizeB E t k) s outs) : ∃ i, P.info? t = some i ∧ Ok nb (k i.size i.bytes) s outs := by
  unfold sizeB at h
  obtain ⟨i, hi, h⟩ := Ok_ti he h
  exact ⟨i, hi, by cases i; exact h⟩
theorem run_info {t : TypeId} {i : TypeInfo} (h : P.info? t = some i) (w : World) : (typeInfo t).run P w = .ok i w := by simp [typeInfo, h]
theorem run_size {t : TypeId} {i : TypeInfo} (h : P.info? t = some i) (w : World) : (sizeOf t).run P w = .ok i.size w := by simp [sizeOf, run_info h]
theorem run_isAgg {t : TypeId} {d : TypeDesc} (h : P.underlying t = some d) (w : World) : (isAgg t).run P w = .ok (isAggD d) w := by
  simp only [isAgg, Sem.run_bind, run_underlying h, Result.andThen_ok]
  cases d <;> rfl
theorem run_zero {t : TypeId} {i : TypeInfo} {v : Value} (h : P.info? t = some i) (hz : i.zero = some v) (w : World) : (zeroValue t).run P w = .ok v w := by
  simp [zeroValue, run_info h, hz]

/-! ### constants -/
theorem cv1_rel (v : Value) : VRel ρ (cv1 v) v := by
  cases v with
  | string s => simp only [cv1, VRel]; exact ⟨s, rfl, rfl, rfl⟩
  | pointer a => cases a <;> simp [cv1, VRel]
  | slice a l c =>
    cases a with
    | none =>
      simp only [cv1, brec, beq_iff]
      by_cases h : Nat.add l c = 0
      · rw [if_pos h]
        have h' : l + c = 0 := h
        obtain rfl : l = 0 := by omega
        obtain rfl : c = 0 := by omega
        simp [VRel]
      · rw [if_neg h]; simp [VRel]
    | some a => simp [cv1, VRel]
  | map m => cases m <;> simp [cv1, VRel]
  | _ => simp [cv1, VRel]
theorem cvs_rel : ∀ l : List Value, VsRel ρ (cvs l) l
  | [] => VsRel.nil
  | v :: l => VsRel.cons (cv1_rel v) (cvs_rel l)
theorem one1_eq (v : Value) : one1 v = v.oneCell' := by cases v <;> rfl
theorem cv1_one {v : Value} (h : v.oneCell' = true) : one (cv1 v) = true := by
  cases v with
  | pointer a => cases a <;> rfl
  | slice a l c =>
    cases a with
    | none => simp only [cv1, brec]; split <;> rfl
    | some a => rfl
  | map m => cases m <;> rfl
  | _ => first | rfl | cases h
theorem all1_eq (l : List Value) : all1 l = l.all Value.oneCell' := by
  induction l with
  | nil => rfl
  | cons v l ih =>
    show (Bool.rec false (all1 l) (one1 v) : Bool) = _
    rw [brec, one1_eq, ih, List.all_cons]
    cases v.oneCell' <;> simp
theorem cvs_ones {l : List Value} (h : l.all Value.oneCell' = true) : ones (cvs l) = true := by
  induction l with
  | nil => rfl
  | cons v l ih =>
    simp only [List.all_cons, Bool.and_eq_true] at h
    show (one (cv1 v) && ones (cvs l)) = true
    rw [cv1_one h.1, ih h.2]; rfl
theorem cv_rel (v : Value) : VRel ρ (cv v) v := by
  have h0 := cv1_rel (ρ := ρ) v
  cases v with
  | agg a =>
    simp only [cv, brec]
    by_cases h : all1 a.toList = true
    · rw [if_pos h]; simp only [VRel]; exact ⟨a, rfl, cvs_rel _, cvs_ones (by rw [← all1_eq]; exact h)⟩
    · rw [if_neg h]; simp [VRel]
  | tuple a => simp only [cv, VRel]; exact ⟨a, rfl, cvs_rel _⟩
  | _ => exact h0
theorem Ok_dcs {d : DVal} {v : Value} {k : List DVal → HM} (hv : VRel ρ d v) (h : Ok nb (dcs d k) s outs) : ∃ cs, VsRel ρ cs v.cells.toList ∧ ones cs = true ∧ Ok nb (k cs) s outs := by
  have key : one d = true → dcs d k = k [d] → ∃ cs, VsRel ρ cs v.cells.toList ∧ ones cs = true ∧ Ok nb (k cs) s outs := fun h1 e => by
    rw [e] at h
    refine ⟨[d], ?_, by simp [ones, h1], h⟩
    have := hv.one h1
    have e2 : v.cells.toList = [v] := by cases v <;> first | rfl | cases this
    rw [e2]; exact VsRel.cons hv VsRel.nil
  cases d with
  | agg cs =>
    simp only [VRel] at hv
    obtain ⟨a, rfl, h1, h2⟩ := hv
    exact ⟨cs, h1, h2, h⟩
  | tuple vs => exact (Ok_fail h).elim
  | opq u =>
    simp only [dcs, brec] at h key
    by_cases hu : one1 u = true
    · exact key (by rw [one1_eq] at hu; exact hu) (by rw [if_pos hu])
    · rw [if_neg hu] at h; exact (Ok_fail h).elim
  | _ => exact key rfl rfl
theorem Ok_zero (he : EOk P E) {t : Nat} {k : List DVal → HM} (h : Ok nb (zero E t k) s outs) : ∃ v cs, (∀ w, (zeroValue t).run P w = .ok v w) ∧ VsRel ρ cs v.cells.toList ∧ ones cs = true ∧ Ok nb (k cs) s outs := by
  unfold YtcongfiojbajeaaD.zero at h
  obtain ⟨i, hi, h⟩ := Ok_ti he h
  cases i with
  | mk d a b c e f g z m o =>
    simp only at h
    cases z with
    | none => exact (Ok_fail h).elim
    | some v =>
      simp only at h
      obtain ⟨cs, h1, h2, h3⟩ := Ok_dcs (cv_rel v) h
      exact ⟨v, cs, fun w => run_zero hi rfl w, h1, h2, h3⟩
theorem Ok_zeroV (he : EOk P E) {t : Nat} {k : DVal → HM} (h : Ok nb (zeroV E t k) s outs) : ∃ v d, (∀ w, (zeroValue t).run P w = .ok v w) ∧ (∀ ρ, VRel ρ d v) ∧ Ok nb (k d) s outs := by
  unfold zeroV at h
  obtain ⟨i, hi, h⟩ := Ok_ti he h
  cases i with
  | mk d a b c e f g z m o =>
    simp only at h
    cases z with
    | none => exact (Ok_fail h).elim
    | some v => exact ⟨v, cv v, fun w => run_zero hi rfl w, fun ρ => cv_rel v, h⟩

/-! ### places -/
theorem list_sub {α : Type} (l : List α) (sh m o n : Nat) (h : o + n ≤ m) : (((l.drop sh).take m).drop o).take n = (l.drop (sh + o)).take n := by
  rw [List.drop_take, List.take_take, List.drop_drop, Nat.min_eq_left (by omega)]
theorem cell_at {w : World} {c : Nat} {a : Array Value} {e : TypeId} {fz : Nat × Nat} (h : w.heap[c]? = some (.cells a e fz)) (i : Nat) : w.cell? ⟨c, i, none⟩ = a[i]? := by simp [World.cell?, h]
theorem add_at (c o i : Nat) : (⟨c, o, none⟩ : Addr).add i = ⟨c, o + i, none⟩ := by unfold Addr.add; split <;> simp_all
/-- Cells that lie in a block are read. -/
theorem run_read {c o n : Nat} {a : Array Value} {e : TypeId} {fz : Nat × Nat} (h : w.heap[c]? = some (.cells a e fz)) (hn : o + n ≤ a.size) :
    (loadCells ⟨c, o, none⟩ n).run P w = .ok ((a.toList.drop o).take n).toArray w := by
  have hl : ((a.toList.drop o).take n).length = n := by simp; omega
  have := run_loadCells_list (P := P) (w := w) ⟨c, o, none⟩ ((a.toList.drop o).take n) (fun j v hj => by
    rw [add_at, cell_at h]
    rw [List.getElem?_take] at hj
    split at hj
    · rw [List.getElem?_drop] at hj; simpa using hj
    · cases hj)
  rw [hl] at this
  exact this
/-- A block's cells, as the small machine has them. -/
theorem ORel.cells_inv {cs : List DVal} {e : Nat} {opn : Bool} {fl fh sh : Nat} {oc : Obj} (h : ORel ρ (.cells cs e opn fl fh) oc sh) : ∃ (c' : Array Value) (fz : Nat × Nat), oc = .cells c' e fz ∧ sh + cs.length ≤ c'.size ∧ (opn = false → sh = 0 ∧ c'.size = cs.length) ∧
      VsRel ρ cs ((c'.toList.drop sh).take cs.length) ∧ ones cs = true ∧ FzOk fz fl fh sh c'.size := h
theorem sub_rel {cs : List DVal} {l : List Value} {sh o n : Nat} (h : VsRel ρ cs ((l.drop sh).take cs.length)) (hn : o + n ≤ cs.length) : VsRel ρ ((cs.drop o).take n) ((l.drop (sh + o)).take n) := by
  have := (h.drop o).take n
  rwa [list_sub _ _ _ _ _ hn] at this
theorem load_ok (he : EOk P E) {t b o : Nat} {v : Value} {k : DVal → HM} (hv : VRel ρ (.ptr b o) v) (hok : Ok nb (loadD E t b o k) s outs) (r : Rel P nb base w0 ρ s.h w) :
    ∃ (x : DVal) (y : Value) (s' : St), s'.h = s.h ∧ (Instr.loadAt t v).run P w = .ok y w ∧ VRel ρ x y ∧ Ok nb (k x) s' outs := by
  simp only [VRel] at hv
  obtain ⟨c, sh, hρ, rfl⟩ := hv
  unfold loadD at hok
  obtain ⟨ob, s1, hs1, hg, hok⟩ := Ok_get hok
  obtain ⟨oc, hoc, hor⟩ := r.at hρ hg
  cases ob with
  | cells cs e opn fl fh =>
    obtain ⟨c', fz, rfl, h1, h2, h3, h4, h5⟩ := hor.cells_inv
    simp only at hok
    obtain ⟨d, hd, hok⟩ := Ok_desc he hok
    rw [brec] at hok
    by_cases ha : isAggD d = true
    · rw [if_pos ha] at hok
      obtain ⟨i, hi, hok⟩ := Ok_size he hok
      rw [lsplit_eq] at hok
      by_cases hl1 : o ≤ cs.length
      · rw [if_pos hl1, lsplit_eq] at hok
        by_cases hl2 : i.size ≤ (cs.drop o).length
        · rw [if_pos hl2] at hok
          simp at hl2
          refine ⟨.agg ((cs.drop o).take i.size), .agg ((c'.toList.drop (sh + o)).take i.size).toArray, s1, hs1, ?_, ?_, hok⟩
          · simp [Instr.loadAt, Instr.sureAddr, loadVar, run_isAgg hd, ha, run_size hi, run_read hoc (show sh + o + i.size ≤ c'.size by omega)]
          · simp only [VRel]
            exact ⟨_, rfl, by simpa using sub_rel h3 (by omega), ones_take _ (ones_drop _ h4)⟩
        · rw [if_neg hl2] at hok; exact (Ok_fail hok).elim
      · rw [if_neg hl1] at hok; exact (Ok_fail hok).elim
    · rw [if_neg ha, lget_eq] at hok
      cases hc : cs[o]? with
      | none => rw [hc] at hok; exact (Ok_fail hok).elim
      | some d' =>
        rw [hc] at hok
        obtain ⟨v, hv1, hv2⟩ := h3.get hc
        rw [List.getElem?_take] at hv1
        split at hv1
        · rw [List.getElem?_drop] at hv1
          refine ⟨d', v, s1, hs1, ?_, hv2, hok⟩
          have : w.cell? ⟨c, sh + o, none⟩ = some v := by rw [cell_at hoc]; simpa using hv1
          simp [Instr.loadAt, Instr.sureAddr, loadVar, run_isAgg hd, ha, this]
        · cases hv1
  | _ => exact (Ok_fail hok).elim
theorem load_sim (he : EOk P E) {t b o : Nat} {v : Value} (hv : VRel ρ (.ptr b o) v) : Sim P nb base w0 ρ w (Instr.loadAt t v) (loadD E t b o) VRel := fun k s outs hok r =>
  let ⟨x, y, s', h1, h2, h3, h4⟩ := load_ok he hv hok r
  ⟨ρ, w, x, y, s', ρ.le_refl, h2, by rw [h1]; exact r, h3, h4⟩
theorem Upd.setRow {w : World} {c : Nat} {cur : Array Value} {e : TypeId} {fz : Nat × Nat} (h : w.heap[c]? = some (.cells cur e fz)) (new : Array Value) (hn : new.size = cur.size) : Upd c (.cells new e fz) w (w.setRow c new) := by
  have hlt := (Array.getElem?_eq_some_iff.1 h).1
  refine ⟨rfl, rfl, rfl, by simp [World.setRow], setRow_heap w c cur new e fz h, fun k hk => ?_, fun a' e' fz' h' => ?_⟩
  · simp [World.setRow, Array.getElem?_modify, Ne.symm hk]
  · rw [h] at h'; cases h'; exact ⟨new, fz, rfl, hn⟩
/-- A block's cells from o on are written. -/
theorem storeC_sim {b o c sh : Nat} {vs : List DVal} {us : List Value} {k : HM} (hρ : ρ b = some (c, sh)) (hvs : VsRel ρ vs us) (h1 : ones vs = true) (hok : Ok nb (storeC b o vs k) s outs) (r : Rel P nb base w0 ρ s.h w) :
    ∃ w' s', (storeCells ⟨c, sh + o, none⟩ us).run P w = .ok () w' ∧ Rel P nb base w0 ρ s'.h w' ∧ Ok nb k s' outs := by
  unfold storeC at hok
  obtain ⟨ob, s1, hs1, hg, hok⟩ := Ok_get hok
  obtain ⟨oc, hoc, hor⟩ := r.at hρ hg
  cases ob with
  | cells cs e opn fl fh =>
    obtain ⟨c', fz, rfl, g1, g2, g3, g4, g5⟩ := hor.cells_inv
    simp only at hok
    rw [brec, brec] at hok
    simp only [ble_iff, llen_eq] at hok
    -- in both ways the cells go in, and none of them is frozen
    have key : (fh ≤ o ∨ o + vs.length ≤ fl) → Ok nb (lput HM.fail o vs cs fun cs => HM.set b (.cells cs e opn fl fh) k) s1 outs →
        ∃ w' s', (storeCells ⟨c, sh + o, none⟩ us).run P w = .ok () w' ∧ Rel P nb base w0 ρ s'.h w' ∧ Ok nb k s' outs := fun hfr hok => by
      rw [lput_eq] at hok
      by_cases hl : o + vs.length ≤ cs.length
      · rw [if_pos hl] at hok
        obtain ⟨hb, s2, hs2, hok⟩ := Ok_set hok
        have hul : us.length = vs.length := hvs.len.symm
        have hrun : ∃ w', (storeCells ⟨c, sh + o, none⟩ us).run P w = .ok () w' ∧ Upd c (.cells (c'.toList.take (sh + o) ++ us ++ c'.toList.drop (sh + o + us.length)).toArray e fz) w w' := by
          have := run_store_all (P := P) us (sh + o) hoc (by omega) (hvs.ones h1) (fun i hi1 hi2 => by
            by_cases hz : fz.1 ≤ i ∧ i < fz.2
            · have := g5.1 i (by omega) (by omega) hz.1 hz.2; omega
            · omega)
          exact this
        obtain ⟨w', hw', hu⟩ := hrun
        refine ⟨w', s2, hw', ?_, hok⟩
        rw [hs2, hs1]
        refine r.upd hb hg (by simp) hρ hu ?_
        refine ⟨_, fz, rfl, by simp; omega, fun ho => ?_, ?_, ?_, ⟨fun i i1 i2 i3 i4 => g5.1 i i1 (by simp at i2; omega) i3 i4, g5.2⟩⟩
        · obtain ⟨z1, z2⟩ := g2 ho
          exact ⟨z1, by simp; omega⟩
        · have e1 : (cs.take o ++ (vs ++ cs.drop (o + vs.length))).length = cs.length := by simp; omega
          rw [e1]
          have e2 : ((c'.toList.take (sh + o) ++ us ++ c'.toList.drop (sh + o + us.length)).toArray.toList.drop sh).take cs.length =
              ((c'.toList.drop sh).take cs.length).take o ++ (us ++ ((c'.toList.drop sh).take cs.length).drop (o + vs.length)) := by
            apply List.ext_getElem?
            intro i
            simp only [List.getElem?_take, List.getElem?_drop, List.getElem?_append, List.length_take, List.length_append, List.length_drop, Array.length_toList]
            rw [hul]
            by_cases hi : i < cs.length
            · by_cases hi2 : i < o
              · rw [if_pos hi, if_pos (by omega), if_pos (by omega), if_pos (by omega), if_pos (by omega), if_pos hi2, if_pos hi]
              · by_cases hi3 : i < o + vs.length
                · rw [if_pos hi, if_pos (by omega), if_neg (by omega), if_neg (by omega), if_pos (by omega)]
                  congr 1; omega
                · rw [if_pos hi, if_neg (by omega), if_neg (by omega), if_neg (by omega), if_pos (by omega)]
                  congr 1; omega
            · rw [if_neg hi]
              by_cases hi4 : i < o
              · omega
              · rw [if_neg (by omega), if_neg (by omega), if_neg (by omega)]
          rw [e2]
          exact (g3.take o).app (hvs.app (g3.drop _))
        · exact ones_app (ones_take _ g4) (ones_app h1 (ones_drop _ g4))
      · rw [if_neg hl] at hok; exact (Ok_fail hok).elim
    by_cases hf : fh ≤ o
    · rw [if_pos hf] at hok; exact key (.inl hf) hok
    · rw [if_neg hf] at hok
      by_cases hf2 : Nat.add o vs.length ≤ fl
      · rw [if_pos hf2] at hok; exact key (.inr hf2) hok
      · rw [if_neg hf2] at hok; exact (Ok_fail hok).elim
  | _ => exact (Ok_fail hok).elim
  where
  run_store_all {P : Program} : ∀ (us : List Value) (o : Nat) {w : World} {c : Nat} {c' : Array Value} {e : TypeId} {fz : Nat × Nat} (h : w.heap[c]? = some (.cells c' e fz)) (hl : o + us.length ≤ c'.size) (h1 : ∀ v ∈ us, v.oneCell' = true)
    (hf : ∀ i, o ≤ i → i < o + us.length → ¬(fz.1 ≤ i ∧ i < fz.2)), ∃ w', (storeCells ⟨c, o, none⟩ us).run P w = .ok () w' ∧ Upd c (.cells (c'.toList.take o ++ us ++ c'.toList.drop (o + us.length)).toArray e fz) w w' := by
    intro us o w c c' e fz h hl h1 hf
    suffices hh : ∀ (us : List Value) (i : Nat) (cur : Array Value) (w : World), w.heap[c]? = some (.cells cur e fz) → o + i + us.length ≤ cur.size → (∀ v ∈ us, v.oneCell' = true) →
        (∀ j, o + i ≤ j → j < o + i + us.length → ¬(fz.1 ≤ j ∧ j < fz.2)) →
        (storeCells ⟨c, o, none⟩ us i).run P w = .ok () (w.setRow c (cur.toList.take (o + i) ++ us ++ cur.toList.drop (o + i + us.length)).toArray) from
      ⟨_, hh us 0 c' w h hl h1 hf, Upd.setRow h _ (by simp; omega)⟩
    intro us
    induction us with
    | nil =>
      intro i cur w hg _ _ _
      simp only [storeCells, List.append_nil, List.length_nil, Nat.add_zero, List.take_append_drop, Array.toArray_toList]
      rw [setRow_self w c cur e fz hg]; rfl
    | cons v rest ih =>
      intro i cur w hg hl h1 hf
      have hi : o + i < cur.size := by simp at hl; omega
      have hcell : w.cell? ⟨c, o + i, none⟩ = some cur[o + i] := by simp [World.cell?, hg, hi]
      have hfro : w.frozen? ⟨c, o + i, none⟩ = false := by
        have := hf (o + i) (by omega) (by simp)
        obtain ⟨lo, hi'⟩ := fz
        simp only [World.frozen?, hg]
        simpa using this
      have hst : (store ((⟨c, o, none⟩ : Addr).add i) v).run P w = .ok () (w.setRow c (cur.setIfInBounds (o + i) v)) := by
        rw [add_at, run_store P w _ v _ (h1 v (by simp)), hcell]
        simp [hfro, setCell_eq_setRow w c (o + i) cur e fz v hg]
      have ih := ih (i + 1) (cur.setIfInBounds (o + i) v) (w.setRow c (cur.setIfInBounds (o + i) v)) (setRow_heap w c cur _ e _ hg) (by simp at hl ⊢; omega) (fun x hx => h1 x (by simp [hx]))
        (fun j hj1 hj2 => hf j (by omega) (by simp at hj2 ⊢; omega))
      simp only [storeCells, Sem.run_bind, hst, Result.andThen_ok, ih, setRow_setRow]
      congr 3
      have e := list_seg_step cur.toList (o + i) v rest (by simp at hl ⊢; omega)
      simpa [Array.toList_setIfInBounds, Nat.add_assoc] using e
theorem store_sim (he : EOk P E) {t b o : Nat} {d : DVal} {a v : Value} {k : HM} (ha : VRel ρ (.ptr b o) a) (hv : VRel ρ d v) (hok : Ok nb (storeD E t b o d k) s outs) (r : Rel P nb base w0 ρ s.h w) :
    ∃ w' s', (Instr.storeAt t a v).run P w = .ok () w' ∧ Rel P nb base w0 ρ s'.h w' ∧ Ok nb k s' outs := by
  simp only [VRel] at ha
  obtain ⟨c, sh, hρ, rfl⟩ := ha
  unfold storeD at hok
  obtain ⟨i, hi, hok⟩ := Ok_size he hok
  obtain ⟨cs, h1, h2, hok⟩ := Ok_dcs hv hok
  rw [brec] at hok
  simp only [beq_iff, llen_eq] at hok
  by_cases hn : i.size = cs.length
  · rw [if_pos hn] at hok
    obtain ⟨w', s', hr, hrel, hok⟩ := storeC_sim (P := P) hρ h1 h2 hok r
    refine ⟨w', s', ?_, hrel, hok⟩
    have hl := h1.len
    have e : v.cells.size = i.size := by rw [hn, hl]; simp
    simp [Instr.storeAt, Instr.sureAddr, storeVar, run_size hi, e, hr]
  · rw [if_neg hn] at hok; exact (Ok_fail hok).elim
end Go.Proofs.YtcongfiojbajeaaD

/- Operation by operation: new blocks, parts, addresses, slices. Conditions: none. -/
namespace Go.Proofs.YtcongfiojbajeaaD
open Go Go.RowKit
set_option linter.unusedVariables false
set_option linter.unusedSimpArgs false
variable {P : Program} {E : Env} {nb base : Nat} {w0 w : World} {ρ : Rho} {s : St} {outs : Outs}

/-- A new row of cells; the model's may be longer. -/
theorem new_sim {cs : List DVal} {e fl fh : Nat} {opn : Bool} {k : Nat → HM} (hok : Ok nb (.new (.cells cs e opn fl fh) k) s outs) (r : Rel P nb base w0 ρ s.h w)
    (c' : Array Value) (hl : cs.length ≤ c'.size) (ho : opn = false → c'.size = cs.length) (hr : VsRel ρ cs (c'.toList.take cs.length)) (h1 : ones cs = true) :
    ∃ ρ' b s', ρ.le ρ' ∧ ρ' b = some (w.heap.size, 0) ∧ Rel P nb base w0 ρ' s'.h (w.alloc (.cells c' e)) ∧ Ok nb (k b) s' outs := by
  obtain ⟨g, hn, s', hs', hok⟩ := Ok_new hok
  have hn1 : 1 ≤ s.n := by omega
  have hle := Rho.le_add (ρ := ρ) w.heap.size 0 none ((r.dom s.n hn1).2 g) (fun h => by cases h)
  have := r.alloc (oc := .cells c' e) hn g (o := .cells cs e opn fl fh) ⟨c', (0, 0), rfl, by omega, fun h => ⟨rfl, ho h⟩, by have := hr.mono hle; simpa using this, h1, ⟨fun i _ _ _ h => by simp at h, fun _ => .inl rfl⟩⟩
  exact ⟨ρ.add s.n w.heap.size 0 none, s.n, s', hle, by simp [Rho.add_f], by rw [hs']; exact this.1, hok⟩
theorem new_all {cs : List DVal} {e fl fh : Nat} {k : Nat → HM} (hok : Ok nb (.new (.cells cs e false fl fh) k) s outs) (r : Rel P nb base w0 ρ s.h w)
    (c' : Array Value) (hr : VsRel ρ cs c'.toList) (h1 : ones cs = true) :
    ∃ ρ' b s', ρ.le ρ' ∧ ρ' b = some (w.heap.size, 0) ∧ Rel P nb base w0 ρ' s'.h (w.alloc (.cells c' e)) ∧ Ok nb (k b) s' outs := by
  have hl := hr.len
  refine new_sim hok r c' (by rw [hl]; simp) (fun _ => by rw [hl]; simp) ?_ h1
  rw [List.take_of_length_le (by rw [hl]; exact Nat.le_refl _)]; exact hr
theorem ptr_rel {b c : Nat} (h : ρ b = some (c, 0)) : VRel ρ (.ptr b 0) (.pointer (some ⟨c, 0, none⟩)) := by
  simp only [VRel]; exact ⟨c, 0, h, by simp⟩
theorem alloc_sim (he : EOk P E) {t : Nat} : Sim P nb base w0 ρ w (Instr.alloc t true (.tuple #[])) (fun c => zero E t fun z => HM.new (.cells z t false 0 0) fun b => c (.ptr b 0)) VRel := by
  intro k s outs hok r
  obtain ⟨v, cs, hz, h1, h2, hok⟩ := Ok_zero (ρ := ρ) he hok
  obtain ⟨ρ', b, s', hle, hb, hrel, hok⟩ := new_all hok r v.cells h1 h2
  refine ⟨ρ', _, _, _, s', hle, ?_, hrel, ptr_rel hb, hok⟩
  simp [Instr.alloc, hz, newVar, newRow]
theorem box_sim {t : Nat} {d : DVal} {v : Value} (hv : VRel ρ d v) : Sim P nb base w0 ρ w (Instr.box t v) (fun c => dcs d fun cs => HM.new (.cells cs t false 0 0) fun b => c (.ptr b 0)) VRel := by
  intro k s outs hok r
  obtain ⟨cs, h1, h2, hok⟩ := Ok_dcs hv hok
  obtain ⟨ρ', b, s', hle, hb, hrel, hok⟩ := new_all hok r v.cells h1 h2
  refine ⟨ρ', _, _, _, s', hle, ?_, hrel, ptr_rel hb, hok⟩
  simp [Instr.box, newVar, newRow]

/-! ### parts -/
theorem zip_sets (off : Nat) : ∀ (vs : List Value) (k : Nat) (cells : Array Value), off + k + vs.length ≤ cells.size →
    ((vs.zipIdx k).foldl (fun cs (x : Value × Nat) => cs.setIfInBounds (off + x.2) x.1) cells).toList = cells.toList.take (off + k) ++ vs ++ cells.toList.drop (off + k + vs.length)
  | [], k, cells, _ => by simp
  | v :: vs, k, cells, h => by
    simp only [List.zipIdx_cons, List.foldl_cons]
    rw [zip_sets off vs (k + 1) _ (by simp at h ⊢; omega)]
    have e := list_seg_step cells.toList (off + k) v vs (by simp at h ⊢; omega)
    simpa [Array.toList_setIfInBounds, Nat.add_assoc] using e
/-- Pairs of a place and a value. -/
def PsRel (ρ : Rho) : List (Nat × DVal) → List (Nat × Value) → Prop
  | [], l => l = []
  | p :: ps, l => ∃ v vs, l = (p.1, v) :: vs ∧ VRel ρ p.2 v ∧ PsRel ρ ps vs
theorem fills_sim {pl : Nat → (Nat → Nat → HM) → HM} {place : Nat → Option (Nat × Nat)}
    (hp : ∀ i k s outs, Ok nb (pl i k) s outs → ∃ off sz, place i = some (off, sz) ∧ Ok nb (k off sz) s outs) :
    ∀ (ps : List (Nat × DVal)) (vs : List (Nat × Value)) (cs : List DVal) (cells : Array Value) (c : List DVal → HM), PsRel ρ ps vs → VsRel ρ cs cells.toList → ones cs = true → Ok nb (fills pl ps cs c) s outs →
      ∃ cs' cells', Instr.fill place cells vs = some cells' ∧ VsRel ρ cs' cells'.toList ∧ ones cs' = true ∧ Ok nb (c cs') s outs := by
  intro ps
  induction ps with
  | nil => intro vs cs cells c h h1 h2 hok; obtain rfl := h; exact ⟨cs, cells, rfl, h1, h2, hok⟩
  | cons p ps ih =>
    intro vs cs cells c h h1 h2 hok
    obtain ⟨v, vs, rfl, hv, hps⟩ := h
    obtain ⟨i, d⟩ := p
    have hok : Ok nb (pl i fun off sz => dcs d fun ds => Bool.rec .fail (lput HM.fail off ds cs fun cs => fills pl ps cs c) (Nat.beq sz (llen ds))) s outs := hok
    obtain ⟨off, sz, hpl, hok⟩ := hp _ _ _ _ hok
    obtain ⟨ds, g1, g2, hok⟩ := Ok_dcs hv hok
    rw [brec] at hok
    simp only [beq_iff, llen_eq] at hok
    by_cases hs : sz = ds.length
    · rw [if_pos hs, lput_eq] at hok
      by_cases hl : off + ds.length ≤ cs.length
      · rw [if_pos hl] at hok
        have e1 := g1.len
        have e2 := h1.len
        simp at e1 e2
        have ez := zip_sets off v.cells.toList 0 cells (by simp; omega)
        obtain ⟨cs', cells', q1, q2, q3, q4⟩ := ih vs _ (v.cells.toList.zipIdx.foldl (fun cs (x : Value × Nat) => cs.setIfInBounds (off + x.2) x.1) cells) c hps
          (by rw [ez]; have hh := (h1.take off).app (g1.app (h1.drop (off + ds.length))); rw [e1] at hh ⊢; simpa using hh) (ones_app (ones_take _ h2) (ones_app g2 (ones_drop _ h2))) hok
        refine ⟨cs', cells', ?_, q2, q3, q4⟩
        simp only [Instr.fill, hpl]
        rw [if_neg (by simp; omega)]
        rw [← q1]
        congr 1
        rw [← Array.foldl_toList, Array.toList_zipIdx]
      · rw [if_neg hl] at hok; exact (Ok_fail hok).elim
    · rw [if_neg hs] at hok; exact (Ok_fail hok).elim
theorem places_ok (he : EOk P E) : ∀ (fs : List Field) (i : Nat) (k : Nat → Nat → HM), Ok nb (places E fs i k) s outs → ∃ f inf, fs[i]? = some f ∧ P.info? f.type = some inf ∧ Ok nb (k f.offset inf.size) s outs := by
  intro fs
  induction fs with
  | nil => intro i k h; exact (Ok_fail h).elim
  | cons f fs ih =>
    intro i k h
    cases i with
    | zero =>
      cases f with
      | mk n t off em tg pk bo =>
        have h : Ok nb (YtcongfiojbajeaaD.size E t fun s => k off s) s outs := h
        obtain ⟨inf, h1, h2⟩ := Ok_size he h
        exact ⟨_, inf, rfl, h1, h2⟩
    | succ i => exact ih i k h
theorem run_places {fs : Array Field} (hf : ∀ f ∈ fs.toList, ∃ i, P.info? f.type = some i) (w : World) :
    ((fs.mapM fun f => do pure (f.offset, ← sizeOf f.type) : Sem (Array (Nat × Nat)))).run P w = .ok (fs.map fun f => (f.offset, ((P.info? f.type).map (·.size)).getD 0)) w := by
  rw [Array.mapM_eq_mapM_toList]
  have key : ∀ l : List Field, (∀ f ∈ l, ∃ i, P.info? f.type = some i) → (l.mapM fun f => do pure (f.offset, ← sizeOf f.type) : Sem (List (Nat × Nat))).run P w = .ok (l.map fun f => (f.offset, ((P.info? f.type).map (·.size)).getD 0)) w := by
    intro l
    induction l with
    | nil => intro _; rfl
    | cons f l ih =>
      intro h
      obtain ⟨i, hi⟩ := h f (by simp)
      have := ih fun x hx => h x (by simp [hx])
      simp only [List.mapM_cons, Sem.run_bind, run_size hi, Result.andThen_ok, this, List.map_cons, hi, Option.map_some, Option.getD_some, Sem.run_pure]
  simp only [Sem.run_map, key fs.toList hf, Result.andThen_ok]
  congr 1
  apply Array.ext'; simp
theorem build_sim (he : EOk P E) {t : Nat} {ps : List (Nat × DVal)} {vs : Array (Nat × Value)} (hp : PsRel ρ ps vs.toList) : Sim P nb base w0 ρ w (Instr.build t vs) (buildX E t ps) VRel := by
  intro k s outs hok r
  unfold buildX at hok
  obtain ⟨v, zs, hz, h1, h2, hok⟩ := Ok_zero (ρ := ρ) he hok
  have hknown := Ok_known hok
  obtain ⟨d, hd, hok⟩ := Ok_desc he hok
  cases d with
  | struct fs =>
    simp only at hok
    obtain ⟨cs, cells, q1, q2, q3, q4⟩ := fills_sim (place := ((fs.map fun f => (f.offset, ((P.info? f.type).map (·.size)).getD 0))[·]?)) (fun i k s outs h => by
      obtain ⟨f, inf, e1, e2, e3⟩ := places_ok he _ _ _ h
      refine ⟨f.offset, inf.size, ?_, e3⟩
      rw [Array.getElem?_toList] at e1
      simp [e1, e2]) ps vs.toList zs v.cells _ hp h1 h2 hok
    refine ⟨ρ, w, .agg cs, .agg cells, s, ρ.le_refl, ?_, r, ?_, q4⟩
    · simp only [Instr.build, Sem.run_bind, hz, Result.andThen_ok, run_underlying hd, run_places (he.flds t hknown fs hd), q1, Sem.run_pure]
    · simp only [VRel]; exact ⟨cells, rfl, q2, q3⟩
  | array n e =>
    simp only at hok
    obtain ⟨i, hi, hok⟩ := Ok_size he hok
    obtain ⟨cs, cells, q1, q2, q3, q4⟩ := fills_sim (place := fun j => some (j * i.size, i.size)) (fun j k s outs h => ⟨_, _, rfl, h⟩) ps vs.toList zs v.cells _ hp h1 h2 hok
    refine ⟨ρ, w, .agg cs, .agg cells, s, ρ.le_refl, ?_, r, ?_, q4⟩
    · simp only [Instr.build, Sem.run_bind, hz, Result.andThen_ok, run_underlying hd, run_size hi, q1, Sem.run_pure]
    · simp only [VRel]; exact ⟨cells, rfl, q2, q3⟩
  | _ => exact (Ok_fail hok).elim
theorem flat_get {α : Type} (l : List α) : ∀ (n i : Nat), (List.replicate n l).flatten[i]? = if i < n * l.length then l[i % l.length]? else none := by
  intro n
  induction n with
  | zero => intro i; simp
  | succ n ih =>
    intro i
    rw [List.replicate_succ, List.flatten_cons, List.getElem?_append, ih]
    by_cases h : i < l.length
    · rw [if_pos h, if_pos (by rw [Nat.add_mul]; omega), Nat.mod_eq_of_lt h]
    · have e : i % l.length = (i - l.length) % l.length := Nat.mod_eq_sub_mod (by omega)
      rw [if_neg h, e]
      by_cases h2 : i - l.length < n * l.length
      · rw [if_pos h2, if_pos (by rw [Nat.add_mul]; omega)]
      · rw [if_neg h2, if_neg (by rw [Nat.add_mul]; omega)]
theorem rep_cells (z : Array Value) (n : Nat) : ((Array.range (n * z.size)).map (z[· % z.size]!)).toList = (List.replicate n z.toList).flatten := by
  apply List.ext_getElem?
  intro i
  rw [flat_get]
  simp only [Array.toList_map, Array.toList_range, List.getElem?_map, Array.length_toList]
  by_cases h : i < n * z.size
  · have h0 : 0 < z.size := by
      rcases Nat.eq_zero_or_pos z.size with e | e
      · rw [e] at h; simp at h
      · exact e
    rw [if_pos h, List.getElem?_range h]
    have := Nat.mod_lt i h0
    simp [this]
  · rw [if_neg h]; simp; omega
end Go.Proofs.YtcongfiojbajeaaD

/- Operation by operation: slices, fields, indexes. Conditions: none. -/
namespace Go.Proofs.YtcongfiojbajeaaD
open Go Go.RowKit
set_option linter.unusedVariables false
set_option linter.unusedSimpArgs false
variable {P : Program} {E : Env} {nb base : Nat} {w0 w : World} {ρ : Rho} {s : St} {outs : Outs}

theorem band (a b : Bool) : (Bool.and a b = true) = (a = true ∧ b = true) := by cases a <;> cases b <;> simp
theorem slice_rel {b c l cp ex : Nat} {cp' : Nat} (h : ρ b = some (c, 0)) (h1 : cp ≤ cp') (h2 : ex = 0 → cp' = cp) (h3 : l ≤ cp) (h4 : ∀ es, ex = es + 1 → ∃ n, ρ.lim c = some (n, es) ∧ cp' * es ≤ n := by intro es h; cases h) : VRel ρ (.slice b 0 l cp ex) (.slice (some ⟨c, 0, none⟩) l cp') := by
  simp only [VRel]; exact ⟨c, 0, cp', h, by simp, h1, h2, h3, fun es e => by simpa using h4 es e⟩
/-- Zeros of so many elements. -/
theorem zeros_rel {zs : List DVal} {v : Value} {sz n : Nat} (h1 : VsRel ρ zs v.cells.toList) (hs : sz = zs.length) :
    VsRel ρ (List.replicate n zs).flatten ((Array.range (n * sz)).map (v.cells[· % v.cells.size]!)).toList ∧
    (n * sz = 0 → ((Array.range (n * sz)).map ((#[] : Array Value)[· % (#[] : Array Value).size]!)) = ((Array.range (n * sz)).map (v.cells[· % v.cells.size]!))) := by
  have hl := h1.len
  have e : sz = v.cells.size := by rw [hs, hl]; simp
  refine ⟨by rw [e, rep_cells]; exact h1.rep n, fun h0 => by rw [h0]; simp⟩
theorem wrap_nat (a : Nat) (h : a < 9223372036854775808) : IntKind.i64.wrap (a : Int) = a := by
  unfold IntKind.wrap IntKind.bits IntKind.signed
  simp
  omega
theorem run_makeSlice_nat {t e : Nat} {kn km : IntKind} {a b : Nat} {i : TypeInfo} {z : Value} (hd : P.underlying t = some (.slice e)) (hi : P.info? e = some i) (hz : ∀ w, (zeroValue e).run P w = .ok z w)
    (hab : a ≤ b) (hb : b ≤ 1000000) (hbs : Nat.mul i.bytes b ≤ 1000000000) (w : World) :
    (Instr.makeSlice t (.int kn (Int.ofNat a)) (.int km (Int.ofNat b))).run P w = .ok (.slice (some ⟨w.heap.size, 0, none⟩) a b) (w.alloc (.cells ((Array.range (b * i.size)).map (z.cells[· % z.cells.size]!)) e)) := by
  have w1 : IntKind.i64.wrap (Int.ofNat a) = a := wrap_nat a (by omega)
  have w2 : IntKind.i64.wrap (Int.ofNat b) = b := wrap_nat b (by omega)
  have hx1 : decide ((a : Int) > (b : Int)) = false := by simp; omega
  have hx2 : decide ((i.bytes : Int) * (b : Int) > 2 ^ 48) = false := by
    have h1 : i.bytes * b ≤ 1000000000 := hbs
    have : (i.bytes : Int) * (b : Int) ≤ 1000000000 := by rw [← Int.natCast_mul]; omega
    simp; omega
  have hx3 : decide ((b : Int) < 0) = false := by simp
  have hx4 : decide ((a : Int) < 0) = false := by simp
  have hu := run_underlying hd w
  by_cases h0 : b * i.size = 0
  · simp only [Instr.makeSlice, Sem.run_bind, hu, Result.andThen_ok, asInt, asIntOf, Sem.run_pure, run_info hi, w1, w2, hx1, hx2, hx3, hx4, Bool.or_false, Bool.false_eq_true, if_false, run_askRoom, run_size hi, Int.toNat_natCast, h0, if_true, Sem.run_ite]
    have hm : ∀ f : Nat → Value, (Array.range 0).map f = #[] := fun f => by apply Array.ext'; simp
    simp only [newRow, hm, Sem.run_bind, run_newObj_alloc, Result.andThen_ok, Sem.run_pure, Int.toNat_natCast]
  · simp only [Instr.makeSlice, Sem.run_bind, hu, Result.andThen_ok, asInt, asIntOf, Sem.run_pure, run_info hi, w1, w2, hx1, hx2, hx3, hx4, Bool.or_false, Bool.false_eq_true, if_false, run_askRoom, run_size hi, Int.toNat_natCast, h0, Sem.run_ite, hz]
    simp [newRow]
theorem makeSlice_sim (he : EOk P E) {t : Nat} {n m : DVal} {vn vm : Value} (hn : VRel ρ n vn) (hm : VRel ρ m vm) : Sim P nb base w0 ρ w (Instr.makeSlice t vn vm) (makeSliceX E t n m) VRel := by
  intro k s outs hok r
  unfold makeSliceX at hok
  cases n with
  | int kn a =>
    cases a with
    | negSucc a => exact (Ok_fail hok).elim
    | ofNat a =>
      cases m with
      | int km b =>
        cases b with
        | negSucc b => exact (Ok_fail hok).elim
        | ofNat b =>
          simp only [natOf] at hok
          simp only [VRel] at hn hm
          subst hn hm
          obtain ⟨d, hd, hok⟩ := Ok_desc he hok
          cases d with
          | slice e =>
            simp only at hok
            obtain ⟨i, hi, hok⟩ := Ok_sizeB he hok
            simp only [brec, band, ble_iff] at hok
            by_cases hc : a ≤ b ∧ b ≤ 1000000 ∧ Nat.mul i.bytes b ≤ 1000000000
            · rw [if_pos hc] at hok
              obtain ⟨v, zs, hz, h1, h2, hok⟩ := Ok_zero (ρ := ρ) he hok
              simp only [beq_iff, llen_eq] at hok
              by_cases hs : i.size = zs.length
              · rw [if_pos hs, lrep_eq] at hok
                obtain ⟨q1, q2⟩ := zeros_rel (n := b) h1 hs
                obtain ⟨ρ', bb, s', hle, hb, hrel, hok⟩ := new_all hok r _ q1 (ones_rep _ h2)
                refine ⟨ρ', _, _, _, s', hle, ?_, hrel, slice_rel (cp' := b) hb (Nat.le_refl _) (fun _ => rfl) hc.1, hok⟩
                exact run_makeSlice_nat hd hi hz hc.1 hc.2.1 hc.2.2 w
              · rw [if_neg hs] at hok; exact (Ok_fail hok).elim
            · rw [if_neg hc] at hok; exact (Ok_fail hok).elim
          | _ => exact (Ok_fail hok).elim
      | _ => exact (Ok_fail hok).elim
  | _ => exact (Ok_fail hok).elim
theorem buildSlice_sim (he : EOk P E) {t n : Nat} {ps : List (Nat × DVal)} {vs : Array (Nat × Value)} (hp : PsRel ρ ps vs.toList) : Sim P nb base w0 ρ w (Instr.buildSlice t n vs) (buildSliceX E t n ps) VRel := by
  intro k s outs hok r
  unfold buildSliceX at hok
  obtain ⟨d, hd, hok⟩ := Ok_desc he hok
  cases d with
  | slice e =>
    simp only at hok
    obtain ⟨i, hi, hok⟩ := Ok_size he hok
    simp only [brec, ble_iff] at hok
    by_cases hc : Nat.mul n i.size ≤ 16777216
    · rw [if_pos hc] at hok
      obtain ⟨v, zs, hz, h1, h2, hok⟩ := Ok_zero (ρ := ρ) he hok
      simp only [beq_iff, llen_eq] at hok
      by_cases hs : i.size = zs.length
      · rw [if_pos hs, lrep_eq] at hok
        obtain ⟨q1, q2⟩ := zeros_rel (n := n) h1 hs
        obtain ⟨cs, cells, g1, g2, g3, hok⟩ := fills_sim (place := fun j => some (j * i.size, i.size)) (fun j k s outs h => ⟨_, _, rfl, h⟩) ps vs.toList _ _ _ hp q1 (ones_rep _ h2) hok
        obtain ⟨ρ', bb, s', hle, hb, hrel, hok⟩ := new_all hok r _ g2 g3
        refine ⟨ρ', _, _, _, s', hle, ?_, hrel, slice_rel (cp' := n) hb (Nat.le_refl _) (fun _ => rfl) (Nat.le_refl _), hok⟩
        have hc' : ¬ n * i.size > 2 ^ 24 := by have : Nat.mul n i.size = n * i.size := rfl; omega
        by_cases h0 : n * i.size = 0
        · have q2 := q2 h0
          simp only [Instr.buildSlice, Sem.run_bind, run_underlying hd, run_size hi, Result.andThen_ok, if_neg hc', Sem.run_ite, if_pos h0, Sem.run_pure]
          rw [q2, g1]
          simp [newRow]
        · simp only [Instr.buildSlice, Sem.run_bind, run_underlying hd, run_size hi, Result.andThen_ok, if_neg hc', Sem.run_ite, if_neg h0, hz, Sem.run_pure]
          rw [g1]
          simp [newRow]
      · rw [if_neg hs] at hok; exact (Ok_fail hok).elim
    · rw [if_neg hc] at hok; exact (Ok_fail hok).elim
  | _ => exact (Ok_fail hok).elim
theorem fieldN_ok : ∀ (fs : List Field) (i : Nat) (k : Nat → Nat → HM), Ok nb (fieldN fs i k) s outs → ∃ f, fs[i]? = some f ∧ Ok nb (k f.type f.offset) s outs := by
  intro fs
  induction fs with
  | nil => intro i k h; exact (Ok_fail h).elim
  | cons f fs ih =>
    intro i k h
    cases i with
    | zero => cases f with
      | mk n t off em tg pk bo => exact ⟨_, rfl, h⟩
    | succ i => exact ih i k h
theorem fieldAddr_sim (he : EOk P E) {t f : Nat} {d : DVal} {v : Value} (hv : VRel ρ d v) : Sim P nb base w0 ρ w (Instr.fieldAt t v f) (fieldAddrX E t d f) VRel := by
  intro k s outs hok r
  unfold fieldAddrX at hok
  cases d with
  | ptr b o =>
    simp only at hok
    obtain ⟨d, hd, hok⟩ := Ok_desc he hok
    cases d with
    | struct fs =>
      simp only at hok
      obtain ⟨fd, hf, hok⟩ := fieldN_ok _ _ _ hok
      obtain ⟨i, hi, hok⟩ := Ok_size he hok
      cases hn : i.size with
      | zero => rw [hn] at hok; exact (Ok_fail hok).elim
      | succ m =>
        rw [hn] at hok
        simp only [VRel] at hv
        obtain ⟨c, sh, hρ, rfl⟩ := hv
        rw [Array.getElem?_toList] at hf
        refine ⟨ρ, w, _, .pointer (some ⟨c, sh + (o + fd.offset), none⟩), s, ρ.le_refl, ?_, r, ?_, hok⟩
        · simp [Instr.fieldAt, Instr.sureAddr, run_underlying hd, hf, fieldPlace, run_size hi, hn, add_at, Nat.add_assoc]
        · simp only [VRel]; exact ⟨c, sh, hρ, rfl⟩
    | _ => exact (Ok_fail hok).elim
  | _ => exact (Ok_fail hok).elim
theorem part_sim (he : EOk P E) {t o : Nat} {cs : List DVal} {a : Array Value} {k : K} (h : VsRel ρ cs a.toList) (h1 : ones cs = true) (hok : Ok nb (partX E t cs o k) s outs) :
    ∃ d v, (∀ w, (part t a o).run P w = .ok v w) ∧ VRel ρ d v ∧ Ok nb (k d) s outs := by
  unfold partX at hok
  obtain ⟨d, hd, hok⟩ := Ok_desc he hok
  rw [brec] at hok
  by_cases ha : isAggD d = true
  · rw [if_pos ha] at hok
    obtain ⟨i, hi, hok⟩ := Ok_size he hok
    rw [lsplit_eq] at hok
    by_cases hl1 : o ≤ cs.length
    · rw [if_pos hl1, lsplit_eq] at hok
      by_cases hl2 : i.size ≤ (cs.drop o).length
      · rw [if_pos hl2] at hok
        refine ⟨_, .agg (a.extract o (o + i.size)), fun w => by simp [part, run_isAgg hd, ha, run_size hi], ?_, hok⟩
        simp only [VRel]
        refine ⟨_, rfl, ?_, ones_take _ (ones_drop _ h1)⟩
        rw [Array.toList_extract]
        have := (h.drop o).take i.size
        simpa [List.extract_eq_take_drop] using this
      · rw [if_neg hl2] at hok; exact (Ok_fail hok).elim
    · rw [if_neg hl1] at hok; exact (Ok_fail hok).elim
  · rw [if_neg ha, lget_eq] at hok
    cases hc : cs[o]? with
    | none => rw [hc] at hok; exact (Ok_fail hok).elim
    | some d' =>
      rw [hc] at hok
      obtain ⟨v, hv1, hv2⟩ := h.get hc
      refine ⟨d', v, fun w => ?_, hv2, hok⟩
      rw [Array.getElem?_toList] at hv1
      simp [part, run_isAgg hd, ha, hv1]
theorem field_sim (he : EOk P E) {t f : Nat} {d : DVal} {v : Value} (hv : VRel ρ d v) : Sim P nb base w0 ρ w (Instr.field t v f) (fieldX E t d f) VRel := by
  intro k s outs hok r
  unfold fieldX at hok
  cases d with
  | agg cs =>
    simp only at hok
    simp only [VRel] at hv
    obtain ⟨a, rfl, h1, h2⟩ := hv
    obtain ⟨d, hd, hok⟩ := Ok_desc he hok
    cases d with
    | struct fs =>
      simp only at hok
      obtain ⟨fd, hf, hok⟩ := fieldN_ok _ _ _ hok
      obtain ⟨d, v, hp, hv, hok⟩ := part_sim he h1 h2 hok
      rw [Array.getElem?_toList] at hf
      exact ⟨ρ, w, d, v, s, ρ.le_refl, by simp [Instr.field, run_underlying hd, hf, asAgg, hp], r, hv, hok⟩
    | _ => exact (Ok_fail hok).elim
  | _ => exact (Ok_fail hok).elim
/-- A number that is not below 0. -/
theorem natOf_ok {d : DVal} {k : Nat → HM} (h : Ok nb (natOf d k) s outs) : ∃ kd n, d = .int kd (Int.ofNat n) ∧ Ok nb (k n) s outs := by
  cases d with
  | int kd n =>
    cases n with
    | ofNat n => exact ⟨kd, n, rfl, h⟩
    | negSucc n => exact (Ok_fail h).elim
  | _ => exact (Ok_fail h).elim
theorem indexAddr_sim (he : EOk P E) {t : Nat} {d i : DVal} {v vi : Value} (hv : VRel ρ d v) (hi : VRel ρ i vi) : Sim P nb base w0 ρ w (Instr.indexAt t v vi) (indexAddrX E t d i) VRel := by
  intro k s outs hok r
  unfold indexAddrX at hok
  obtain ⟨kd, n, en, hok1⟩ := natOf_ok hok
  clear hok
  have hok := hok1
  clear hok1
  subst en
  simp only [VRel] at hi
  subst hi
  obtain ⟨ds, hd, hok⟩ := Ok_desc he hok
  cases ds with
  | array m e =>
    simp only at hok
    cases d with
    | ptr b o =>
      simp only [brec, blt_iff] at hok
      by_cases hn : n < m
      · rw [if_pos hn] at hok
        obtain ⟨inf, hinf, hok⟩ := Ok_size he hok
        simp only [VRel] at hv
        obtain ⟨c, sh, hρ, rfl⟩ := hv
        refine ⟨ρ, w, _, .pointer (some ⟨c, sh + (o + n * inf.size), none⟩), s, ρ.le_refl, ?_, r, by simp only [VRel]; exact ⟨c, sh, hρ, rfl⟩, hok⟩
        have h2 : (0 : Int) ≤ Int.ofNat n ∧ Int.ofNat n < (m : Int) := ⟨Int.natCast_nonneg n, Int.ofNat_lt.2 hn⟩
        simp [Instr.indexAt, asIntOf, run_underlying hd, Instr.sureAddr, run_size hinf, add_at, Nat.add_assoc, hn]
      · rw [if_neg hn] at hok; exact (Ok_fail hok).elim
    | _ => exact (Ok_fail hok).elim
  | slice e =>
    simp only at hok
    cases d with
    | slice b o l cp ex =>
      simp only [brec, blt_iff] at hok
      by_cases hn : n < l
      · rw [if_pos hn] at hok
        obtain ⟨inf, hinf, hok⟩ := Ok_size he hok
        simp only [VRel] at hv
        obtain ⟨c, sh, cp', hρ, rfl, _⟩ := hv
        refine ⟨ρ, w, _, .pointer (some ⟨c, sh + (o + n * inf.size), none⟩), s, ρ.le_refl, ?_, r, by simp only [VRel]; exact ⟨c, sh, hρ, rfl⟩, hok⟩
        simp [Instr.indexAt, asIntOf, run_underlying hd, run_size hinf, add_at, Nat.add_assoc, hn]
      · rw [if_neg hn] at hok; exact (Ok_fail hok).elim
    | _ => exact (Ok_fail hok).elim
  | _ => exact (Ok_fail hok).elim
theorem index_sim (he : EOk P E) {t : Nat} {d i : DVal} {v vi : Value} (hv : VRel ρ d v) (hi : VRel ρ i vi) : Sim P nb base w0 ρ w (Instr.index t v vi) (indexX E t d i) VRel := by
  intro k s outs hok r
  unfold indexX at hok
  obtain ⟨kd, n, en, hok1⟩ := natOf_ok hok
  clear hok
  have hok := hok1
  clear hok1
  subst en
  simp only [VRel] at hi
  subst hi
  cases d with
  | str m x =>
    simp only at hok
    obtain ⟨ds, hd, hok⟩ := Ok_desc he hok
    cases ds with
    | string =>
      simp only [brec, blt_iff] at hok
      by_cases hn : n < m
      · rw [if_pos hn] at hok
        simp only [VRel] at hv
        obtain ⟨t, rfl, rfl, rfl⟩ := hv
        have hn' : n < t.size := by simpa using hn
        refine ⟨ρ, w, _, .int .u8 t[n].toNat, s, ρ.le_refl, ?_, r, ?_, hok⟩
        · simp [Instr.index, asIntOf, run_underlying hd, hn']
        · simp only [VRel]
          congr 1
          have := num_get t.data.toList n hn
          have e : t.data.toList[n] = t[n] := rfl
          rw [← e, this]; rfl
      · rw [if_neg hn] at hok; exact (Ok_fail hok).elim
    | _ => exact (Ok_fail hok).elim
  | agg cs =>
    simp only at hok
    simp only [VRel] at hv
    obtain ⟨a, rfl, h1, h2⟩ := hv
    obtain ⟨ds, hd, hok⟩ := Ok_desc he hok
    cases ds with
    | array m e =>
      simp only [brec, blt_iff] at hok
      by_cases hn : n < m
      · rw [if_pos hn] at hok
        obtain ⟨inf, hinf, hok⟩ := Ok_size he hok
        obtain ⟨d, v, hp, hv, hok⟩ := part_sim he h1 h2 hok
        have hp' : ∀ w, (part e a (n * inf.size)).run P w = .ok v w := hp
        exact ⟨ρ, w, d, v, s, ρ.le_refl, by simp [Instr.index, asIntOf, run_underlying hd, run_size hinf, hn, hp'], r, hv, hok⟩
      · rw [if_neg hn] at hok; exact (Ok_fail hok).elim
    | _ => exact (Ok_fail hok).elim
  | _ => exact (Ok_fail hok).elim
end Go.Proofs.YtcongfiojbajeaaD

/- Operation by operation: cuts of slices and texts, lengths, numbers. Conditions: none. -/
namespace Go.Proofs.YtcongfiojbajeaaD
open Go Go.RowKit
set_option linter.unusedVariables false
set_option linter.unusedSimpArgs false
variable {P : Program} {E : Env} {nb base : Nat} {w0 w : World} {ρ : Rho} {s : St} {outs : Outs}

/-- An operand that may be missing. -/
def ORelO (ρ : Rho) : Option DVal → Option Value → Prop
  | none, v => v = none
  | some d, v => ∃ x, v = some x ∧ VRel ρ d x
theorem optN_ok {o : Option DVal} {v : Option Value} {d : Nat} {k : Nat → HM} (ho : ORelO ρ o v) (h : Ok nb (optN o d k) s outs) :
    ∃ n, Ok nb (k n) s outs ∧ ((v = none ∧ n = d) ∨ ∃ kd, v = some (.int kd (n : Int))) := by
  cases o with
  | none => exact ⟨d, h, .inl ⟨ho, rfl⟩⟩
  | some x =>
    obtain ⟨y, rfl, hy⟩ := ho
    have h : Ok nb (natOf x k) s outs := h
    obtain ⟨kd, n, e, h⟩ := natOf_ok h
    subst e
    simp only [VRel] at hy
    subst hy
    exact ⟨n, h, .inr ⟨kd, rfl⟩⟩
theorem run_bound {kd : IntKind} {n y : Nat} (h : n ≤ y) (code : BoundsCode) (w : World) : (Instr.sliceBound (.int kd (n : Int)) y code).run P w = .ok n w := by
  have h2 : (0 : Int) ≤ (n : Int) ∧ (n : Int) ≤ (y : Int) := ⟨Int.natCast_nonneg n, Int.ofNat_le.2 h⟩
  simp only [Instr.sliceBound, asIntOf, Sem.run_bind, Sem.run_pure, Result.andThen_ok, if_pos h2, Int.toNat_natCast]
/-- The bounds, none of them a third. -/
theorem run_bounds {isS : Bool} {len cap l h : Nat} {lo hi : Option Value} (hl : (lo = none ∧ l = 0) ∨ ∃ kd, lo = some (.int kd (l : Int))) (hh : (hi = none ∧ h = len) ∨ ∃ kd, hi = some (.int kd (h : Int)))
    (h1 : l ≤ h) (h2 : h ≤ cap) (w : World) : (Instr.sliceBounds isS len cap lo hi none).run P w = .ok (l, h, cap) w := by
  rcases hl with ⟨rfl, rfl⟩ | ⟨kl, rfl⟩ <;> rcases hh with ⟨rfl, rfl⟩ | ⟨kh, rfl⟩ <;>
    simp [Instr.sliceBounds, run_bound h2, run_bound h1]
theorem run_bounds3 {isS : Bool} {len cap l h m : Nat} {lo : Option Value} {kh km : IntKind} (hl : (lo = none ∧ l = 0) ∨ ∃ kd, lo = some (.int kd (l : Int)))
    (h1 : l ≤ h) (h2 : h ≤ m) (h3 : m ≤ cap) (w : World) : (Instr.sliceBounds isS len cap lo (some (.int kh (h : Int))) (some (.int km (m : Int)))).run P w = .ok (l, h, m) w := by
  rcases hl with ⟨rfl, rfl⟩ | ⟨kl, rfl⟩ <;>
    simp [Instr.sliceBounds, run_bound h3, run_bound h2, run_bound h1]
theorem extract_list (t : ByteArray) (l h : Nat) : (t.extract l h).data.toList = (t.data.toList.take h).drop l := by
  rw [ByteArray.data_extract, Array.toList_extract, List.extract_eq_take_drop, List.drop_take]
/-- A dead name for a place in a block that lives. -/
theorem name_dead {k : Nat → HM} (hok : Ok nb (.new .dead k) s outs) (r : Rel P nb base w0 ρ s.h w) {c sh : Nat} {oc : Obj} (hoc : w.heap[c]? = some oc) :
    ∃ ρ' b s', ρ.le ρ' ∧ ρ' b = some (c, sh) ∧ Rel P nb base w0 ρ' s'.h w ∧ Ok nb (k b) s' outs := by
  obtain ⟨g, hn, s', hs', hok⟩ := Ok_new hok
  have hle := Rho.le_add (ρ := ρ) c sh none ((r.dom s.n (by omega)).2 g) (fun h => by cases h)
  refine ⟨ρ.add s.n c sh none, s.n, s', hle, by simp [Rho.add_f], ?_, hok⟩
  rw [hs']
  exact r.name hn g hoc (.inr rfl) (.inl rfl) (fun _ _ _ h => h) (.inl fun _ _ h => h) (fun a e fz h => by rw [hoc] at h; cases h; exact ⟨a, fz, rfl, rfl⟩) (fun h => by cases h) (fun _ _ h => by cases h) (Below.refl _ _) trivial
/-- Texts and slices are cut. -/
theorem slice_sim (he : EOk P E) {t : Nat} {d : DVal} {v : Value} {lo hi mx : Option DVal} {vl vh vm : Option Value} (hv : VRel ρ d v) (hlo : ORelO ρ lo vl) (hhi : ORelO ρ hi vh) (hmx : ORelO ρ mx vm) :
    Sim P nb base w0 ρ w (Instr.sliceAt t v vl vh vm) (sliceX E t d lo hi mx) VRel := by
  intro k s outs hok r
  unfold sliceX at hok
  cases d with
  | str n x =>
    simp only at hok
    obtain ⟨ds, hd, hok⟩ := Ok_desc he hok
    cases ds with
    | string =>
      cases mx with
      | some m => exact (Ok_fail hok).elim
      | none =>
        simp only at hok
        obtain ⟨h, hokh, hh⟩ := optN_ok hhi hok
        clear hok
        obtain ⟨l, hok, hl⟩ := optN_ok hlo hokh
        clear hokh
        simp only [brec, band, ble_iff] at hok
        by_cases hc : l ≤ h ∧ h ≤ n
        · rw [if_pos hc] at hok
          simp only [VRel] at hv
          obtain ⟨t, rfl, rfl, rfl⟩ := hv
          obtain rfl : vm = none := hmx
          have hsz : t.size = t.data.toList.length := by simp
          refine ⟨ρ, w, _, .string (t.extract l h), s, ρ.le_refl, ?_, r, ?_, hok⟩
          · have := run_bounds (P := P) (isS := false) (len := t.size) (cap := t.size) hl (by rw [hsz]; exact hh) hc.1 (by rw [hsz]; exact hc.2) w
            simp [Instr.sliceAt, Instr.slice, run_underlying hd, this]
          · simp only [VRel]
            refine ⟨t.extract l h, rfl, ?_, ?_⟩
            · rw [extract_list]; simp; omega
            · rw [extract_list, num_drop _ _ (by simp; omega), num_take _ _ hc.2]
              have : (t.data.toList.take h).length - l = h - l := by simp; omega
              rw [this]; rfl
        · rw [if_neg hc] at hok; exact (Ok_fail hok).elim
    | _ => exact (Ok_fail hok).elim
  | nils =>
    simp only at hok
    obtain ⟨ds, hd, hok⟩ := Ok_desc he hok
    simp only [VRel] at hv
    subst hv
    cases ds with
    | slice el =>
      simp only at hok
      obtain ⟨inf, hinf, hok⟩ := Ok_size he hok
      cases mx with
      | none =>
        simp only at hok
        obtain ⟨h, hokh, hh⟩ := optN_ok hhi hok
        clear hok
        obtain ⟨l, hok, hl⟩ := optN_ok hlo hokh
        clear hokh
        simp only [brec, band, beq_iff] at hok
        by_cases hc : l = 0 ∧ h = 0
        · rw [if_pos hc] at hok
          obtain ⟨rfl, rfl⟩ := hc
          obtain rfl : vm = none := hmx
          refine ⟨ρ, w, .nils, .slice none 0 0, s, ρ.le_refl, ?_, r, by simp [VRel], hok⟩
          have := run_bounds (P := P) (isS := true) (len := 0) (cap := 0) hl hh (Nat.le_refl _) (Nat.le_refl _) w
          simp [Instr.sliceAt, Instr.slice, run_underlying hd, this, run_size hinf]
        · rw [if_neg hc] at hok; exact (Ok_fail hok).elim
      | some mx =>
        simp only at hok
        obtain ⟨y, rfl, hy⟩ := hmx
        obtain ⟨km, m, em, hok1⟩ := natOf_ok hok
        clear hok
        subst em
        simp only [VRel] at hy
        subst hy
        obtain ⟨h, hokh, hh⟩ := optN_ok hhi hok1
        clear hok1
        obtain ⟨l, hok, hl⟩ := optN_ok hlo hokh
        clear hokh
        simp only [brec, band, beq_iff] at hok
        by_cases hc : m = 0 ∧ l = 0 ∧ h = 0
        · rw [if_pos hc] at hok
          have hfin := hok
          clear hok
          obtain ⟨rfl, rfl, rfl⟩ := hc
          rcases hh with ⟨_, h0⟩ | ⟨kh, rfl⟩
          · omega
          · refine ⟨ρ, w, .nils, .slice none 0 0, s, ρ.le_refl, ?_, r, by simp [VRel], hfin⟩
            have := run_bounds3 (P := P) (isS := true) (len := 0) (cap := 0) (kh := kh) (km := km) hl (Nat.le_refl _) (Nat.le_refl 0) (Nat.le_refl 0) w
            simp only [Instr.sliceAt, Instr.slice, Sem.run_bind, run_underlying hd, Result.andThen_ok, Int.ofNat_eq_natCast, this, run_size hinf, Sem.run_pure, Option.map_none]
            simp
        · rw [if_neg hc] at hok; exact (Ok_fail hok).elim
    | _ => exact (Ok_fail hok).elim
  | slice b o n cp ex =>
    simp only at hok
    obtain ⟨ds, hd, hok⟩ := Ok_desc he hok
    simp only [VRel] at hv
    obtain ⟨c, sh, cp', hρ, rfl, hcp, hex, hn⟩ := hv
    cases ds with
    | slice el =>
      simp only at hok
      obtain ⟨inf, hinf, hok⟩ := Ok_size he hok
      cases mx with
      | none =>
        obtain rfl : vm = none := hmx
        simp only at hok
        obtain ⟨h, hokh, hh⟩ := optN_ok hhi hok
        clear hok
        obtain ⟨l, hok, hl⟩ := optN_ok hlo hokh
        clear hokh
        simp only [brec, band, ble_iff, beq_iff] at hok
        by_cases hc : l ≤ h ∧ h ≤ cp
        · rw [if_pos hc] at hok
          have hrun : (Instr.sliceAt t (.slice (some ⟨c, sh + o, none⟩) n cp') vl vh none).run P w = .ok (.slice (if cp' = l then some ⟨c, sh + o, none⟩ else some ⟨c, sh + o + l * inf.size, none⟩) (h - l) (cp' - l)) w := by
            have := run_bounds (P := P) (isS := true) (len := n) (cap := cp') hl hh hc.1 (by omega) w
            simp only [Instr.sliceAt, Instr.slice, Sem.run_bind, run_underlying hd, Result.andThen_ok, this, run_size hinf, Sem.run_pure, Option.map_some, add_at]
          obtain ⟨hcap, hlim⟩ := hn
          by_cases h1 : ex = 0
          · rw [if_pos h1] at hok
            have hcc := hex h1
            by_cases h2 : l = cp
            · rw [if_pos h2] at hok
              rw [if_pos (by rw [hcc]; exact h2.symm)] at hrun
              refine ⟨ρ, w, _, _, s, ρ.le_refl, hrun, r, ?_, hok⟩
              simp only [VRel]
              exact ⟨c, sh, _, hρ, rfl, by rw [hcc]; exact Nat.le_refl _, fun _ => by rw [hcc]; rfl, Nat.sub_le_sub_right hc.2 l, fun es h => by cases h⟩
            · rw [if_neg h2] at hok
              rw [if_neg (by rw [hcc]; exact fun e => h2 e.symm)] at hrun
              refine ⟨ρ, w, _, _, s, ρ.le_refl, hrun, r, ?_, hok⟩
              simp only [VRel]
              exact ⟨c, sh, _, hρ, by rw [Nat.add_assoc]; rfl, Nat.sub_le_sub_right hcp l, fun _ => by rw [hcc]; rfl, Nat.sub_le_sub_right hc.2 l, fun es h => by cases h⟩
          · rw [if_neg h1] at hok
            by_cases h3 : ex = inf.size + 1
            · rw [if_pos h3] at hok
              obtain ⟨nn, hl1, hl2⟩ := hlim inf.size h3
              have hsplit : l ≤ cp' → l * inf.size + (cp' - l) * inf.size = cp' * inf.size := fun h => by rw [← Nat.add_mul]; congr 1; omega
              by_cases h2 : l = cp
              · rw [if_pos h2] at hok
                have hhl : h - l = 0 := by omega
                rw [hhl] at hrun
                obtain ⟨ob, hob⟩ : ∃ ob, T.get s.h b = some ob := by
                  cases e : T.get s.h b with
                  | some ob => exact ⟨ob, rfl⟩
                  | none => have := (r.dom b (r.pos b _ hρ)).2 e; rw [hρ] at this; cases this
                obtain ⟨oc, hoc, _⟩ := r.at hρ hob
                obtain ⟨ρ', b', s', hle, hb', hrel, hok⟩ := name_dead (sh := if cp' = l then sh + o else sh + o + l * inf.size) hok r hoc
                refine ⟨ρ', w, _, _, s', hle, hrun, hrel, ?_, hok⟩
                simp only [VRel]
                refine ⟨c, _, cp' - l, hb', ?_, Nat.zero_le _, fun h => absurd h h1, Nat.zero_le _, fun es he => ⟨nn, ?_, ?_⟩⟩
                · split <;> rfl
                · have : es = inf.size := by omega
                  rw [this]; exact hle.lim _ _ hl1
                · have : es = inf.size := by omega
                  rw [this]
                  have := hsplit (by omega)
                  split
                  · rename_i e; rw [e, Nat.sub_self]; omega
                  · omega
              · rw [if_neg h2] at hok
                have hne : ¬ cp' = l := by omega
                rw [if_neg hne] at hrun
                refine ⟨ρ, w, _, _, s, ρ.le_refl, hrun, r, ?_, hok⟩
                simp only [VRel]
                refine ⟨c, sh, _, hρ, by rw [Nat.add_assoc]; rfl, Nat.sub_le_sub_right hcp l, fun hx => absurd hx h1, Nat.sub_le_sub_right hc.2 l, fun es he => ⟨nn, ?_, ?_⟩⟩
                · have : es = inf.size := by omega
                  rw [this]; exact hl1
                · have : es = inf.size := by omega
                  rw [this]
                  have := hsplit (by omega)
                  show sh + (o + l * inf.size) + (cp' - l) * inf.size ≤ nn
                  omega
            · rw [if_neg h3] at hok; exact (Ok_fail hok).elim
        · rw [if_neg hc] at hok; exact (Ok_fail hok).elim
      | some mx =>
        obtain ⟨y, rfl, hy⟩ := hmx
        simp only at hok
        obtain ⟨km, m, em, hok1⟩ := natOf_ok hok
        clear hok
        subst em
        simp only [VRel] at hy
        subst hy
        obtain ⟨h, hokh, hh⟩ := optN_ok hhi hok1
        clear hok1
        obtain ⟨l, hok, hl⟩ := optN_ok hlo hokh
        clear hokh
        simp only [brec, band, ble_iff, beq_iff] at hok
        by_cases hc : l ≤ h ∧ h ≤ m ∧ m ≤ cp
        · rw [if_pos hc] at hok
          rcases hh with ⟨_, h0⟩ | ⟨kh, rfl⟩
          · omega
          · have := run_bounds3 (P := P) (isS := true) (len := n) (cap := cp') (kh := kh) (km := km) hl hc.1 hc.2.1 (by omega) w
            refine ⟨ρ, w, _, .slice (if m = l then some ⟨c, sh + o, none⟩ else some ⟨c, sh + o + l * inf.size, none⟩) (h - l) (m - l), s, ρ.le_refl, ?_, r, ?_, hok⟩
            · simp only [Int.ofNat_eq_natCast]
              simp only [Instr.sliceAt, Instr.slice, Sem.run_bind, run_underlying hd, Result.andThen_ok, this, run_size hinf, Sem.run_pure, Option.map_some, add_at]
            · simp only [VRel]
              refine ⟨c, sh, m - l, hρ, ?_, Nat.le_refl _, fun _ => rfl, Nat.sub_le_sub_right hc.2.1 l, fun es h => by cases h⟩
              split
              · rfl
              · rw [Nat.add_assoc]; rfl
        · rw [if_neg hc] at hok; exact (Ok_fail hok).elim
    | _ => exact (Ok_fail hok).elim
  | ptr b o =>
    simp only at hok
    obtain ⟨ds, hd, hok⟩ := Ok_desc he hok
    simp only [VRel] at hv
    obtain ⟨c, sh, hρ, rfl⟩ := hv
    have key : ∀ (el n : Nat) (hrun : ∀ l h inf, P.info? el = some inf → (l ≤ h) → h ≤ n → ((vl = none ∧ l = 0) ∨ ∃ kd, vl = some (.int kd (l : Int))) → ((vh = none ∧ h = n) ∨ ∃ kd, vh = some (.int kd (h : Int))) → vm = none →
          (Instr.sliceAt t (.pointer (some ⟨c, sh + o, none⟩)) vl vh vm).run P w = .ok (.slice (some (if n = l then ⟨c, sh + o, none⟩ else ⟨c, sh + o + l * inf.size, none⟩)) (h - l) (n - l)) w)
        (hok : Ok nb (size E el fun s => Option.rec (motive := fun _ => HM) (optN hi n fun h => optN lo 0 fun l => Bool.rec .fail
          (k (.slice b (Bool.rec (Nat.add o (Nat.mul l s)) o (Nat.beq n l)) (Nat.sub h l) (Nat.sub n l) 0)) (Bool.and (Nat.ble l h) (Nat.ble h n))) (fun _ => .fail) mx) s outs),
        ∃ (ρ' : Rho) (w' : World) (x : DVal) (y : Value) (s' : St), ρ.le ρ' ∧ (Instr.sliceAt t (.pointer (some ⟨c, sh + o, none⟩)) vl vh vm).run P w = .ok y w' ∧ Rel P nb base w0 ρ' s'.h w' ∧ VRel ρ' x y ∧ Ok nb (k x) s' outs := by
      intro el n hrun hok
      obtain ⟨inf, hinf, hok⟩ := Ok_size he hok
      cases mx with
      | some m => exact (Ok_fail hok).elim
      | none =>
        simp only at hok
        obtain ⟨h, hokh, hh⟩ := optN_ok hhi hok
        clear hok
        obtain ⟨l, hok, hl⟩ := optN_ok hlo hokh
        clear hokh
        simp only [brec, band, ble_iff, beq_iff] at hok
        by_cases hc : l ≤ h ∧ h ≤ n
        · rw [if_pos hc] at hok
          refine ⟨ρ, w, _, _, s, ρ.le_refl, hrun l h inf hinf hc.1 hc.2 hl hh hmx, r, ?_, hok⟩
          simp only [VRel]
          refine ⟨c, sh, n - l, hρ, ?_, Nat.le_refl _, fun _ => rfl, Nat.sub_le_sub_right hc.2 l, fun es h => by cases h⟩
          by_cases e : n = l
          · rw [if_pos e, if_pos e]; rfl
          · rw [if_neg e, if_neg e, Nat.add_assoc]; rfl
        · rw [if_neg hc] at hok; exact (Ok_fail hok).elim
    cases ds with
    | array n el =>
      simp only at hok
      refine key el n (fun l h inf hinf h1 h2 hl hh hm => ?_) hok
      subst hm
      have := run_bounds (P := P) (isS := false) (len := n) (cap := n) hl hh h1 h2 w
      simp only [Instr.sliceAt, Instr.sureAddr, Sem.run_bind, run_underlying hd, Result.andThen_ok, this, run_size hinf, Sem.run_pure, add_at]
    | pointer a =>
      simp only at hok
      obtain ⟨da, hda, hok⟩ := Ok_desc he hok
      cases da with
      | array n el =>
        simp only at hok
        refine key el n (fun l h inf hinf h1 h2 hl hh hm => ?_) hok
        subst hm
        have := run_bounds (P := P) (isS := false) (len := n) (cap := n) hl hh h1 h2 w
        simp only [Instr.sliceAt, Instr.slice, asAddr, Sem.run_bind, run_underlying hd, run_underlying hda, Result.andThen_ok, this, run_size hinf, Sem.run_pure, add_at]
      | _ => exact (Ok_fail hok).elim
    | _ => exact (Ok_fail hok).elim
  | _ => exact (Ok_fail hok).elim
end Go.Proofs.YtcongfiojbajeaaD

/- Operation by operation: numbers and texts. Conditions: none. -/
namespace Go.Proofs.YtcongfiojbajeaaD
open Go Go.RowKit
set_option linter.unusedVariables false
set_option linter.unusedSimpArgs false
variable {P : Program} {E : Env} {nb base : Nat} {w0 w : World} {ρ : Rho} {s : St} {outs : Outs}

theorem wrap_u (k : IntKind) (hk : k.signed = false) (n : Int) : k.wrap n = n % (2 ^ k.bits : Int) := by unfold IntKind.wrap; simp [hk]
theorem wrD_eq (k : IntKind) (n : Int) : wrD k n = k.wrap n := by
  cases k with
  | i64 =>
    cases n with
    | ofNat m =>
      simp only [wrD, brec, blt_iff]
      split
      · rename_i h
        have := wrap_nat m (by omega)
        exact this.symm
      · rfl
    | negSucc m =>
      simp only [wrD, brec, blt_iff]
      split
      · rename_i h
        unfold IntKind.wrap IntKind.bits IntKind.signed
        simp
        omega
      · rfl
  | u64 =>
    cases n with
    | ofNat m => rw [wrap_u _ rfl]; rfl
    | negSucc m => rfl
  | u8 =>
    cases n with
    | ofNat m => rw [wrap_u _ rfl]; rfl
    | negSucc m => rfl
  | u32 =>
    cases n with
    | ofNat m => rw [wrap_u _ rfl]; rfl
    | negSucc m => rfl
  | _ => rfl
theorem ilt_eq (a b : Int) : ilt a b = decide (a < b) := by
  rw [Bool.eq_iff_iff, decide_eq_true_iff]
  cases a <;> cases b <;> simp only [ilt, blt_iff]
  · simp
  · simp; omega
  · simp; omega
  · omega
theorem ieq_eq (a b : Int) : ieq a b = decide (a = b) := by
  rw [Bool.eq_iff_iff, decide_eq_true_iff]
  cases a <;> cases b <;> simp only [ieq, beq_iff]
  · exact ⟨fun h => by rw [h], fun h => by injection h⟩
  · simp
  · simp
  · exact ⟨fun h => by rw [h], fun h => by injection h⟩
theorem keq_eq (a b : IntKind) : (keq a b = true) = (a = b) := by cases a <;> cases b <;> simp [keq]
theorem bt_eq (k : IntKind) (n : Int) : bt k n = (BitVec.ofInt k.bits n).toNat := by
  rw [BitVec.toNat_ofInt]
  cases n with
  | ofNat m => rfl
  | negSucc m =>
    show (2 ^ k.bits - 1) - m % 2 ^ k.bits = _
    rw [Int.negSucc_emod _ (by exact_mod_cast Nat.pow_pos (by omega))]
    have hp : 0 < 2 ^ k.bits := Nat.pow_pos (by omega)
    have := Nat.mod_lt m hp
    have e : ((m : Int) % ((2 ^ k.bits : Nat) : Int)) = ((m % 2 ^ k.bits : Nat) : Int) := by simp
    rw [e]
    omega
theorem Ok_fN {n : Nat} {k : Nat → HM} (h : Ok nb (fN n k) s outs) : Ok nb (k n) s outs := by rwa [fN_eq] at h
theorem Ok_fI {n : Int} {k : Int → HM} (h : Ok nb (fI n k) s outs) : Ok nb (k n) s outs := by rwa [fI_eq] at h
theorem Ok_fV {v : DVal} {k : K} (h : Ok nb (fV v k) s outs) : Ok nb (k v) s outs := by rwa [fV_eq] at h
theorem bitD_ok {k : IntKind} {f : Nat → Nat → Nat} {a b : Int} {c : K} (h : Ok nb (bitD k f a b c) s outs) : Ok nb (c (.int k (k.wrap (f (BitVec.ofInt k.bits a).toNat (BitVec.ofInt k.bits b).toNat : Nat)))) s outs := by
  have := Ok_fI (Ok_fN h)
  rw [wrD_eq, bt_eq, bt_eq] at this
  exact this
/-- Two whole numbers of a kind. -/
theorem binI_ok {op : BinOp} {k : IntKind} {a b : Int} {c : K} (t : Nat) (h : Ok nb (binI op k a b c) s outs) :
    ∃ d v, (∀ w, (binOp op t (.int k a) (.int k b)).run P w = .ok v w) ∧ VRel ρ d v ∧ Ok nb (c d) s outs := by
  have key : ∀ d v, (∀ w, (binOp op t (.int k a) (.int k b)).run P w = .ok v w) → VRel ρ d v → Ok nb (c d) s outs → ∃ d v, (∀ w, (binOp op t (.int k a) (.int k b)).run P w = .ok v w) ∧ VRel ρ d v ∧ Ok nb (c d) s outs :=
    fun d v h1 h2 h3 => ⟨d, v, h1, h2, h3⟩
  cases op with
  | add =>
    have h := Ok_fI (show Ok nb (fI (Int.add a b) fun n => c (.int k (wrD k n))) s outs from h)
    rw [wrD_eq] at h
    exact key _ (.int k (k.wrap (a + b))) (fun w => by simp [binOp, Op.intArith]) (by simp only [VRel]; rfl) h
  | sub =>
    have h := Ok_fI (show Ok nb (fI (Int.sub a b) fun n => c (.int k (wrD k n))) s outs from h)
    rw [wrD_eq] at h
    exact key _ (.int k (k.wrap (a - b))) (fun w => by simp [binOp, Op.intArith]) (by simp only [VRel]; rfl) h
  | mul =>
    have h := Ok_fI (show Ok nb (fI (Int.mul a b) fun n => c (.int k (wrD k n))) s outs from h)
    rw [wrD_eq] at h
    exact key _ (.int k (k.wrap (a * b))) (fun w => by simp [binOp, Op.intArith]) (by simp only [VRel]; rfl) h
  | quo =>
    simp only [binI, brec, ieq_eq, decide_eq_true_iff] at h
    by_cases hb : b = 0
    · rw [if_pos hb] at h; exact (Ok_fail h).elim
    · rw [if_neg hb] at h
      have h := Ok_fI h
      rw [wrD_eq] at h
      exact key _ (.int k (k.wrap (a.tdiv b))) (fun w => by simp [binOp, Op.intDiv, hb]) (by simp only [VRel]) h
  | rem =>
    simp only [binI, brec, ieq_eq, decide_eq_true_iff] at h
    by_cases hb : b = 0
    · rw [if_pos hb] at h; exact (Ok_fail h).elim
    · rw [if_neg hb] at h
      exact key _ (.int k (a.tmod b)) (fun w => by simp [binOp, Op.intDiv, hb]) (by simp only [VRel]) (Ok_fI h)
  | and =>
    have h := bitD_ok (show Ok nb (bitD k Nat.land a b c) s outs from h)
    refine key (.int k (k.wrap (((BitVec.ofInt k.bits a &&& BitVec.ofInt k.bits b).toNat : Nat) : Int))) (.int k (k.wrap (((BitVec.ofInt k.bits a &&& BitVec.ofInt k.bits b).toNat : Nat) : Int))) (fun w => by simp [binOp, Op.intBits]) (by simp only [VRel]) ?_
    rw [BitVec.toNat_and]; exact h
  | or =>
    have h := bitD_ok (show Ok nb (bitD k Nat.lor a b c) s outs from h)
    refine key (.int k (k.wrap (((BitVec.ofInt k.bits a ||| BitVec.ofInt k.bits b).toNat : Nat) : Int))) (.int k (k.wrap (((BitVec.ofInt k.bits a ||| BitVec.ofInt k.bits b).toNat : Nat) : Int))) (fun w => by simp [binOp, Op.intBits]) (by simp only [VRel]) ?_
    rw [BitVec.toNat_or]; exact h
  | xor =>
    have h := bitD_ok (show Ok nb (bitD k Nat.xor a b c) s outs from h)
    refine key (.int k (k.wrap (((BitVec.ofInt k.bits a ^^^ BitVec.ofInt k.bits b).toNat : Nat) : Int))) (.int k (k.wrap (((BitVec.ofInt k.bits a ^^^ BitVec.ofInt k.bits b).toNat : Nat) : Int))) (fun w => by simp [binOp, Op.intBits]) (by simp only [VRel]) ?_
    rw [BitVec.toNat_xor]; exact h
  | andNot =>
    refine key (.int k (k.wrap (((BitVec.ofInt k.bits a &&& ~~~ BitVec.ofInt k.bits b).toNat : Nat) : Int))) (.int k (k.wrap (((BitVec.ofInt k.bits a &&& ~~~ BitVec.ofInt k.bits b).toNat : Nat) : Int))) (fun w => by simp [binOp, Op.intBits]) (by simp only [VRel]) (by
      have := bitD_ok (show Ok nb (bitD k (fun x y => Nat.land x (Nat.sub (Nat.sub (Nat.pow 2 k.bits) 1) y)) a b c) s outs from h)
      have e : (BitVec.ofInt k.bits a &&& ~~~ BitVec.ofInt k.bits b).toNat = Nat.land (BitVec.ofInt k.bits a).toNat (Nat.sub (Nat.sub (Nat.pow 2 k.bits) 1) (BitVec.ofInt k.bits b).toNat) := by
        rw [BitVec.toNat_and, BitVec.toNat_not]; rfl
      rw [e]; exact this)
  | shl => exact (Ok_fail h).elim
  | shr => exact (Ok_fail h).elim
  | eql => exact key _ (.bool (a == b)) (fun w => by simp [binOp, Op.intCmp]) (by simp only [VRel]; rw [ieq_eq]; congr 1) h
  | neq => exact key _ (.bool (a != b)) (fun w => by simp [binOp, Op.intCmp]) (by simp only [VRel]; rw [ieq_eq]; congr 1) h
  | lss => exact key _ (.bool (decide (a < b))) (fun w => by simp [binOp, Op.intCmp]) (by simp only [VRel]; rw [ilt_eq]) h
  | leq => exact key _ (.bool (decide (a ≤ b))) (fun w => by simp [binOp, Op.intCmp]) (by simp only [VRel]; rw [ilt_eq]; congr 1; rw [Bool.eq_iff_iff]; simp) h
  | gtr => exact key _ (.bool (decide (a > b))) (fun w => by simp [binOp, Op.intCmp]) (by simp only [VRel]; rw [ilt_eq]) h
  | geq => exact key _ (.bool (decide (a ≥ b))) (fun w => by simp [binOp, Op.intCmp]) (by simp only [VRel]; rw [ilt_eq]; congr 1; rw [Bool.eq_iff_iff]; simp) h
theorem shD_ok {op : BinOp} {k k2 : IntKind} {a b : Int} {c : K} (t : Nat) (h : Ok nb (shD op k a b c) s outs) :
    ∃ d v, (∀ w, (binOp op t (.int k a) (.int k2 b)).run P w = .ok v w) ∧ VRel ρ d v ∧ Ok nb (c d) s outs := by
  cases op with
  | shl =>
    cases b with
    | negSucc m => exact (Ok_fail h).elim
    | ofNat m =>
      have h := Ok_fI (show Ok nb (fI (Int.mul a (Int.ofNat (Nat.pow 2 (Nat.min m k.bits)))) fun n => c (.int k (wrD k n))) s outs from h)
      rw [wrD_eq] at h
      refine ⟨_, .int k (k.wrap (a * 2 ^ min m k.bits)), fun w => ?_, ?_, h⟩
      · have : ¬ ((m : Int) < 0) := by omega
        simp [binOp, Op.shift, this]
      · simp only [VRel]
        have : Int.mul a (Int.ofNat (Nat.pow 2 (Nat.min m k.bits))) = a * 2 ^ min m k.bits := by
          show a * ((2 ^ min m k.bits : Nat) : Int) = _
          rw [Int.natCast_pow]; rfl
        rw [this]
  | shr =>
    cases b with
    | negSucc m => exact (Ok_fail h).elim
    | ofNat m =>
      have hm : ¬ ((m : Int) < 0) := by omega
      have e : (Int.ofNat (Nat.pow 2 (Nat.min m k.bits))) = (2 ^ min m k.bits : Int) := by
        show ((2 ^ min m k.bits : Nat) : Int) = _
        rw [Int.natCast_pow]; rfl
      refine ⟨.int k (a.fdiv (2 ^ min m k.bits)), .int k (a.fdiv (2 ^ min m k.bits)), fun w => by simp [binOp, Op.shift, hm], by simp only [VRel], ?_⟩
      cases a with
      | ofNat a =>
        have h : Ok nb (c (.int k (Int.ofNat (Nat.shiftRight a (Nat.min m k.bits))))) s outs := h
        have e2 : (Int.ofNat (Nat.shiftRight a (Nat.min m k.bits))) = (Int.ofNat a).fdiv (2 ^ min m k.bits) := by
          rw [← e, Int.fdiv_eq_ediv_of_nonneg (Int.ofNat a) (b := Int.ofNat (Nat.pow 2 (m.min k.bits))) (Int.natCast_nonneg _)]
          show ((a >>> (min m k.bits) : Nat) : Int) = ((a / 2 ^ (min m k.bits) : Nat) : Int)
          rw [Nat.shiftRight_eq_div_pow]
        rw [← e2]; exact h
      | negSucc a =>
        have h := Ok_fI (show Ok nb (fI (Int.fdiv (Int.negSucc a) (Int.ofNat (Nat.pow 2 (Nat.min m k.bits)))) fun n => c (.int k n)) s outs from h)
        rw [e] at h; exact h
  | _ => exact (Ok_fail h).elim
theorem less_eq : ∀ (a b : List UInt8), Op.bytesLess a b = lessL a b
  | _, [] => by cases ‹List UInt8› <;> rfl
  | [], _ :: _ => rfl
  | a :: x, b :: y => by simp only [Op.bytesLess, lessL]; rw [less_eq x y]
theorem bor (a b : Bool) : (Bool.or a b) = (a || b) := rfl
theorem slt_eq (a b : List UInt8) : slt a.length (num a) b.length (num b) = Op.bytesLess a b := by
  rw [less_eq, lessL_num]
  unfold slt
  rw [brec]
  simp only [ble_iff]
  split
  · show ((Nat.blt (num a * 256 ^ (b.length - a.length)) (num b)) || (Nat.beq (num a * 256 ^ (b.length - a.length)) (num b) && Nat.blt a.length b.length)) = _
    congr 1
    · rw [Bool.eq_iff_iff, blt_iff]; simp
    · congr 1
      · rw [Bool.eq_iff_iff, beq_iff]; simp
      · rw [Bool.eq_iff_iff, blt_iff]; simp
  · rw [Bool.eq_iff_iff, blt_iff]; simp
theorem seq_eq (a b : List UInt8) : seq a.length (num a) b.length (num b) = (a == b) := by
  rw [Bool.eq_iff_iff]
  unfold seq
  rw [band, beq_iff, beq_iff, beq_iff_eq]
  constructor
  · rintro ⟨h1, h2⟩; exact num_inj a b h1 h2
  · rintro rfl; exact ⟨rfl, rfl⟩
theorem binS_ok {op : BinOp} {x y : ByteArray} {c : K} (t : Nat) (h : Ok nb (binS op x.data.toList.length (num x.data.toList) y.data.toList.length (num y.data.toList) c) s outs) :
    ∃ d v, (∀ w, (binOp op t (.string x) (.string y)).run P w = .ok v w) ∧ VRel ρ d v ∧ Ok nb (c d) s outs := by
  have key : ∀ d v, (∀ w, (binOp op t (.string x) (.string y)).run P w = .ok v w) → VRel ρ d v → Ok nb (c d) s outs → ∃ d v, (∀ w, (binOp op t (.string x) (.string y)).run P w = .ok v w) ∧ VRel ρ d v ∧ Ok nb (c d) s outs :=
    fun d v h1 h2 h3 => ⟨d, v, h1, h2, h3⟩
  have tri : Op.bytesLess y.data.toList x.data.toList = !(Op.bytesLess x.data.toList y.data.toList || x.data.toList == y.data.toList) := by
    have h1 := lessL_num y.data.toList x.data.toList
    have h2 := lessL_num x.data.toList y.data.toList
    rw [less_eq, less_eq, h1, h2, ← seq_eq]
    unfold seq
    generalize num x.data.toList = a
    generalize num y.data.toList = b
    generalize x.data.toList.length = n
    generalize y.data.toList.length = m
    rcases Nat.lt_trichotomy n m with h | h | h
    · have e1 : ¬ m ≤ n := by omega
      have e2 : n ≤ m := by omega
      have e4 : Nat.beq n m = false := by rw [Bool.eq_false_iff]; intro hh; rw [beq_iff] at hh; omega
      rw [if_neg e1, if_pos e2, e4]
      generalize a * 256 ^ (m - n) = A
      by_cases c1 : A < b <;> by_cases c2 : A = b <;> simp [c1, c2, h] <;> omega
    · subst h
      rw [if_pos (Nat.le_refl _), if_pos (Nat.le_refl _), Nat.sub_self, Nat.pow_zero, Nat.mul_one, Nat.mul_one]
      have e4 : Nat.beq n n = true := by rw [beq_iff]
      have e5 : Nat.beq a b = decide (a = b) := by rw [Bool.eq_iff_iff, beq_iff]; simp
      rw [e4, e5]
      by_cases c1 : a < b <;> by_cases c2 : a = b <;> simp [c1, c2] <;> omega
    · have e1 : m ≤ n := by omega
      have e2 : ¬ n ≤ m := by omega
      have e4 : Nat.beq n m = false := by rw [Bool.eq_false_iff]; intro hh; rw [beq_iff] at hh; omega
      rw [if_pos e1, if_neg e2, e4]
      generalize b * 256 ^ (n - m) = B
      by_cases c1 : B < a <;> by_cases c2 : B = a <;> simp [c1, c2, h] <;> omega
  cases op with
  | add =>
    simp only [binS, brec, blt_iff] at h
    by_cases hl : Nat.add x.data.toList.length y.data.toList.length < 9223372036854775808
    · rw [if_pos hl] at h
      refine key _ (.string (x ++ y)) (fun w => ?_) ?_ h
      · have e1 : x.size = x.data.toList.length := by simp
        have e2 : y.size = y.data.toList.length := by simp
        have : ¬ (((x.size + y.size : Nat) : Int) > IntKind.i64.max) := by
          have : x.data.toList.length + y.data.toList.length < 9223372036854775808 := hl
          rw [show IntKind.i64.max = 9223372036854775807 from rfl, e1, e2]; omega
        simp only [binOp, Op.stringOp]
        rw [if_neg this]; rfl
      · simp only [VRel]
        refine ⟨x ++ y, rfl, ?_, ?_⟩
        · rw [ByteArray.data_append, Array.toList_append, List.length_append]; rfl
        · rw [ByteArray.data_append, Array.toList_append, num_append]; rfl
    · rw [if_neg hl] at h; exact (Ok_fail h).elim
  | eql => exact key _ (.bool (x.toList == y.toList)) (fun w => by simp [binOp, Op.stringOp]) (by simp only [VRel]; rw [seq_eq, Lib.toList_data, Lib.toList_data]) h
  | neq => exact key _ (.bool (!(x.toList == y.toList))) (fun w => by simp [binOp, Op.stringOp]) (by simp only [VRel]; rw [seq_eq, Lib.toList_data, Lib.toList_data]) h
  | lss => exact key _ (.bool (Op.bytesLess x.toList y.toList)) (fun w => by simp [binOp, Op.stringOp]) (by simp only [VRel]; rw [slt_eq, Lib.toList_data, Lib.toList_data]) h
  | leq => exact key _ (.bool (Op.bytesLess x.toList y.toList || x.toList == y.toList)) (fun w => by simp [binOp, Op.stringOp]) (by simp only [VRel]; rw [slt_eq, Lib.toList_data, Lib.toList_data, tri]; exact congrArg _ (Bool.not_not _).symm) h
  | gtr => exact key _ (.bool (!(Op.bytesLess x.toList y.toList || x.toList == y.toList))) (fun w => by simp [binOp, Op.stringOp]) (by simp only [VRel]; rw [slt_eq, Lib.toList_data, Lib.toList_data, tri]) h
  | geq => exact key _ (.bool (!(Op.bytesLess x.toList y.toList))) (fun w => by simp [binOp, Op.stringOp]) (by simp only [VRel]; rw [slt_eq, Lib.toList_data, Lib.toList_data]) h
  | _ => exact (Ok_fail h).elim
end Go.Proofs.YtcongfiojbajeaaD

/- Operation by operation: equality, conversions. Conditions: none. -/
namespace Go.Proofs.YtcongfiojbajeaaD
open Go Go.RowKit
set_option linter.unusedVariables false
set_option linter.unusedSimpArgs false
variable {P : Program} {E : Env} {nb base : Nat} {w0 w : World} {ρ : Rho} {s : St} {outs : Outs}

/-- A number, a truth, a text: the small machine's is Go's own. -/
theorem eq1_rel {x y : DVal} {u v : Value} {b : Bool} (hx : VRel ρ x u) (hy : VRel ρ y v) (h : eq1 x y = some b) :
    (∃ p q, u = .bool p ∧ v = .bool q ∧ b = (p == q)) ∨ (∃ k p q, u = .int k p ∧ v = .int k q ∧ b = (p == q)) ∨ (∃ p q, u = .string p ∧ v = .string q ∧ b = (p == q)) := by
  cases x with
  | bool p =>
    cases y with
    | bool q =>
      simp only [VRel] at hx hy
      subst hx hy
      refine .inl ⟨p, q, rfl, rfl, ?_⟩
      cases p <;> cases q <;> simp [eq1] at h <;> subst h <;> rfl
    | _ => simp [eq1] at h
  | int k p =>
    cases y with
    | int k' q =>
      simp only [VRel] at hx hy
      subst hx hy
      simp only [eq1, brec, keq_eq] at h
      by_cases hk : k = k'
      · subst hk
        rw [if_pos rfl] at h
        refine .inr (.inl ⟨k, p, q, rfl, rfl, ?_⟩)
        rw [← Option.some.inj h, ieq_eq]; rw [Bool.eq_iff_iff]; simp
      · rw [if_neg hk] at h; cases h
    | _ => simp [eq1] at h
  | str n p =>
    cases y with
    | str m q =>
      simp only [VRel] at hx hy
      obtain ⟨p, rfl, rfl, rfl⟩ := hx
      obtain ⟨q, rfl, rfl, rfl⟩ := hy
      refine .inr (.inr ⟨p, q, rfl, rfl, ?_⟩)
      simp only [eq1] at h
      rw [← Option.some.inj h, seq_eq, beq_toListBytes, Lib.toList_data, Lib.toList_data]
    | _ => simp [eq1] at h
  | _ => simp [eq1] at h
theorem bstr (p q : ByteArray) : (p == q) = (p.toList == q.toList) := beq_toListBytes p q
/-- Equality at a type. -/
theorem eqT_ok (he : EOk P E) {t : Nat} {lit : Bool} {x y : DVal} {u v : Value} {c : Bool → HM} (hx : VRel ρ x u) (hy : VRel ρ y v) (h : Ok nb (eqT E t lit x y c) s outs) :
    ∃ b, Ok nb (c b) s outs ∧ (∀ w, (Op.equal t u v).run P w = .ok b w) ∧
      ((∃ p, u = .bool p) ∨ (∃ k p, x = .int k p) ∨ (∃ n m, x = .str n m) ∨
        ((∀ w, (binOp .eql t u v).run P w = .ok (.bool b) w) ∧ (∀ w, (binOp .neq t u v).run P w = .ok (.bool !b) w))) ∧
      (∀ op ox oy w, litD ox oy = lit → (eqGuard op t ox oy u v).run P w = .ok () w) := by
  unfold eqT at h
  obtain ⟨d, hd, h⟩ := Ok_desc he h
  have hguard : (∀ a b, ¬ (u = .agg a ∧ v = .agg b)) → ¬ (u = .nilIface ∧ v = .nilIface) → ∀ op ox oy w, litD ox oy = lit → (eqGuard op t ox oy u v).run P w = .ok () w := by
    intro h1 h2 op ox oy w _
    have : ∀ o2, (match u, v with
      | .nilIface, .nilIface => do
        if (ox matches .const _) || (oy matches .const _) then return
        if ← Op.eqGuardIn Op.maxDepth t u v then unsupported (.noEntry "binop/eql: two nil values of an interface type with methods, neither of them the literal nil")
      | .agg _, .agg _ => do
        if !(← program).eqGuardType (← program).depth t then return
        if ← Op.eqGuardIn Op.maxDepth t u v then unsupported (.noEntry "binop/eql: two nil values of an interface type with methods, in a part of a struct or an array")
      | _, _ => pure () : Sem Unit).run P o2 = .ok () o2 := by
      intro o2
      split
      · exact absurd ⟨rfl, rfl⟩ h2
      · exact absurd ⟨rfl, rfl⟩ (h1 _ _)
      · rfl
    unfold eqGuard
    cases op <;> first | rfl | exact this w
  have basic : ∀ o, Ok nb (ocB (eq1 x y) c) s outs → (P.underlying t = some .bool ∧ (∃ p, u = .bool p) ∨ (∃ k, P.underlying t = some (.int k)) ∧ (∃ k p, u = .int k p) ∨ P.underlying t = some .string ∧ (∃ p, u = .string p)) → ((∃ p, u = .bool p) ∨ (∃ k p, x = .int k p) ∨ (∃ n m, x = .str n m)) → o = 1 →
      ∃ b, Ok nb (c b) s outs ∧ (∀ w, (Op.equal t u v).run P w = .ok b w) ∧
      ((∃ p, u = .bool p) ∨ (∃ k p, x = .int k p) ∨ (∃ n m, x = .str n m) ∨
        ((∀ w, (binOp .eql t u v).run P w = .ok (.bool b) w) ∧ (∀ w, (binOp .neq t u v).run P w = .ok (.bool !b) w))) ∧
      (∀ op ox oy w, litD ox oy = lit → (eqGuard op t ox oy u v).run P w = .ok () w) := by
    intro o h ht hxk _
    cases e : eq1 x y with
    | none => rw [e] at h; exact (Ok_fail h).elim
    | some b =>
      rw [e] at h
      refine ⟨b, h, fun w => ?_, ?_, hguard (fun a b' => ?_) ?_⟩
      · unfold Op.equal Op.maxDepth
        rcases eq1_rel hx hy e with ⟨p, q, rfl, rfl, rfl⟩ | ⟨k, p, q, rfl, rfl, rfl⟩ | ⟨p, q, rfl, rfl, rfl⟩
        · rcases ht with ⟨ht, _⟩ | ⟨_, _, _, e2⟩ | ⟨_, _, e2⟩
          · exact run_equalIn_bool' w 9999 t p q ht
          · cases e2
          · cases e2
        · rcases ht with ⟨_, _, e2⟩ | ⟨⟨k', ht⟩, _⟩ | ⟨_, _, e2⟩
          · cases e2
          · exact run_equalIn_int w 9999 t k k' p q ht
          · cases e2
        · rcases ht with ⟨_, _, e2⟩ | ⟨_, _, _, e2⟩ | ⟨ht, _⟩
          · cases e2
          · cases e2
          · have := run_equalIn_string w 9999 t p q ht
            rw [← bstr] at this; exact this
      · rcases hxk with h1 | h1 | h1
        · exact .inl h1
        · exact .inr (.inl h1)
        · exact .inr (.inr (.inl h1))
      · rintro ⟨rfl, _⟩; rcases ht with ⟨_, _, e2⟩ | ⟨_, _, _, e2⟩ | ⟨_, _, e2⟩ <;> cases e2
      · rintro ⟨rfl, _⟩; rcases ht with ⟨_, _, e2⟩ | ⟨_, _, _, e2⟩ | ⟨_, _, e2⟩ <;> cases e2
  have other : ∀ b, Ok nb (c b) s outs → (∀ d w, (Op.equalIn (d + 1) t u v).run P w = .ok b w) → (binOp .eql t u v = do pure (.bool (← Op.equal t u v))) → (binOp .neq t u v = do pure (.bool (!(← Op.equal t u v)))) →
      (∀ a b, ¬ (u = .agg a ∧ v = .agg b)) → ¬ (u = .nilIface ∧ v = .nilIface) →
      ∃ b, Ok nb (c b) s outs ∧ (∀ w, (Op.equal t u v).run P w = .ok b w) ∧
      ((∃ p, u = .bool p) ∨ (∃ k p, x = .int k p) ∨ (∃ n m, x = .str n m) ∨
        ((∀ w, (binOp .eql t u v).run P w = .ok (.bool b) w) ∧ (∀ w, (binOp .neq t u v).run P w = .ok (.bool !b) w))) ∧
      (∀ op ox oy w, litD ox oy = lit → (eqGuard op t ox oy u v).run P w = .ok () w) :=
    fun b h1 h2 h3 h4 h5 h6 => ⟨b, h1, h2 9999, .inr (.inr (.inr ⟨fun w => by rw [h3, Sem.run_bind, show (Op.equal t u v).run P w = _ from h2 9999 w]; rfl, fun w => by rw [h4, Sem.run_bind, show (Op.equal t u v).run P w = _ from h2 9999 w]; rfl⟩)), hguard h5 h6⟩
  cases d with
  | bool =>
    cases x with
    | bool p => simp only [VRel] at hx; subst hx; exact basic 1 h (.inl ⟨hd, _, rfl⟩) (.inl ⟨_, rfl⟩) rfl
    | _ => exact (Ok_fail h).elim
  | int k =>
    cases x with
    | int k' p => simp only [VRel] at hx; subst hx; exact basic 1 h (.inr (.inl ⟨⟨k, hd⟩, _, _, rfl⟩)) (.inr (.inl ⟨_, _, rfl⟩)) rfl
    | _ => exact (Ok_fail h).elim
  | string =>
    cases x with
    | str n p => simp only [VRel] at hx; obtain ⟨q, rfl, _⟩ := hx; exact basic 1 h (.inr (.inr ⟨hd, _, rfl⟩)) (.inr (.inr ⟨_, _, rfl⟩)) rfl
    | _ => exact (Ok_fail h).elim
  | pointer e =>
    cases x with
    | nilp =>
      simp only [VRel] at hx; subst hx
      cases y with
      | nilp =>
        simp only [VRel] at hy; subst hy
        exact other true h (fun d w => by simp [Op.equalIn, run_underlying hd]) rfl rfl (by simp) (by simp)
      | ptr b o =>
        simp only [VRel] at hy; obtain ⟨c', sh, _, rfl⟩ := hy
        exact other false h (fun d w => by simp [Op.equalIn, run_underlying hd]) rfl rfl (by simp) (by simp)
      | _ => exact (Ok_fail h).elim
    | ptr b o =>
      simp only [VRel] at hx; obtain ⟨c1, sh1, hb, rfl⟩ := hx
      cases y with
      | nilp =>
        simp only [VRel] at hy; subst hy
        exact other false h (fun d w => by simp [Op.equalIn, run_underlying hd]) rfl rfl (by simp) (by simp)
      | ptr b' o' =>
        simp only at h
        obtain ⟨i, hi, h⟩ := Ok_size he h
        cases hn : i.size with
        | zero => rw [hn] at h; exact (Ok_fail h).elim
        | succ m =>
          rw [hn] at h
          simp only [brec, beq_iff] at h
          by_cases hbb : b = b'
          · rw [if_pos hbb] at h
            have hfin := h
            clear h
            subst hbb
            simp only [VRel] at hy; obtain ⟨c2, sh2, hb2, rfl⟩ := hy
            rw [hb] at hb2; cases hb2
            have hE : ∀ d w, (Op.equalIn (d + 1) t (.pointer (some ⟨c1, sh1 + o, none⟩)) (.pointer (some ⟨c1, sh1 + o', none⟩))).run P w = .ok (Nat.beq o o') w := fun d w => by
              have e0 : (⟨c1, sh1 + o, none⟩ : Addr) == ⟨c1, sh1 + o', none⟩ ↔ o = o' := by simp
              have e1 : ((⟨c1, sh1 + o, none⟩ : Addr) == ⟨c1, sh1 + o', none⟩) = Nat.beq o o' := by rw [Bool.eq_iff_iff, e0, beq_iff]
              simp [Op.equalIn, run_underlying hd, run_size hi, hn, sameAddr, e1]
            exact other _ hfin hE rfl rfl (by simp) (by simp)
          · rw [if_neg hbb] at h; exact (Ok_fail h).elim
      | _ => exact (Ok_fail h).elim
    | _ => exact (Ok_fail h).elim
  | slice e =>
    cases x with
    | nils =>
      simp only [VRel] at hx; subst hx
      cases y with
      | nils =>
        simp only [VRel] at hy; subst hy
        exact other true h (fun d w => by simp [Op.equalIn, run_underlying hd]) rfl rfl (by simp) (by simp)
      | slice b o l cp ex =>
        simp only [VRel] at hy; obtain ⟨c', sh, cp', _, rfl, _⟩ := hy
        exact other false h (fun d w => by simp [Op.equalIn, run_underlying hd]) rfl rfl (by simp) (by simp)
      | _ => exact (Ok_fail h).elim
    | slice b o l cp ex =>
      simp only [VRel] at hx; obtain ⟨c', sh, cp', _, rfl, _⟩ := hx
      cases y with
      | nils =>
        simp only [VRel] at hy; subst hy
        exact other false h (fun d w => by simp [Op.equalIn, run_underlying hd]) rfl rfl (by simp) (by simp)
      | _ => exact (Ok_fail h).elim
    | _ => exact (Ok_fail h).elim
  | map kt el =>
    cases x with
    | nilm =>
      simp only [VRel] at hx; subst hx
      cases y with
      | nilm =>
        simp only [VRel] at hy; subst hy
        exact other true h (fun d w => by simp [Op.equalIn, run_underlying hd]) rfl rfl (by simp) (by simp)
      | map b =>
        simp only [VRel] at hy; obtain ⟨c', _, rfl⟩ := hy
        exact other false h (fun d w => by simp [Op.equalIn, run_underlying hd]) rfl rfl (by simp) (by simp)
      | _ => exact (Ok_fail h).elim
    | map b =>
      simp only [VRel] at hx; obtain ⟨c', _, rfl⟩ := hx
      cases y with
      | nilm =>
        simp only [VRel] at hy; subst hy
        exact other false h (fun d w => by simp [Op.equalIn, run_underlying hd]) rfl rfl (by simp) (by simp)
      | _ => exact (Ok_fail h).elim
    | _ => exact (Ok_fail h).elim
  | func ps rs vr =>
    cases x with
    | nilf =>
      simp only [VRel] at hx; subst hx
      cases y with
      | nilf =>
        simp only [VRel] at hy; subst hy
        exact other true h (fun d w => by simp [Op.equalIn, run_underlying hd]) rfl rfl (by simp) (by simp)
      | func f a b =>
        simp only [VRel] at hy; obtain ⟨a', b', rfl, _⟩ := hy
        exact other false h (fun d w => by simp [Op.equalIn, run_underlying hd]) rfl rfl (by simp) (by simp)
      | _ => exact (Ok_fail h).elim
    | func f a b =>
      simp only [VRel] at hx; obtain ⟨a', b', rfl, _⟩ := hx
      cases y with
      | nilf =>
        simp only [VRel] at hy; subst hy
        exact other false h (fun d w => by simp [Op.equalIn, run_underlying hd]) rfl rfl (by simp) (by simp)
      | _ => exact (Ok_fail h).elim
    | _ => exact (Ok_fail h).elim
  | interface ms =>
    cases x with
    | nili =>
      simp only [VRel] at hx; subst hx
      cases y with
      | nili =>
        simp only [VRel] at hy; subst hy
        simp only at h
        have hE0 : ∀ d w, (Op.equalIn (d + 1) t .nilIface .nilIface).run P w = .ok true w := fun d w => by simp [Op.equalIn, run_underlying hd]
        have hE : ∀ w, (Op.equal t .nilIface .nilIface).run P w = .ok true w := hE0 9999
        have hend : Ok nb (c true) s outs ∧ (lit = false → ms.toList = []) := by
          cases lit with
          | true => exact ⟨h, fun h => by cases h⟩
          | false =>
            cases em : ms.toList with
            | nil => rw [em] at h; exact ⟨h, fun _ => rfl⟩
            | cons m l => rw [em] at h; exact (Ok_fail h).elim
        refine ⟨true, hend.1, hE, .inr (.inr (.inr ⟨fun w => by rw [show binOp .eql t .nilIface .nilIface = (do pure (.bool (← Op.equal t .nilIface .nilIface))) from rfl, Sem.run_bind, hE]; rfl, fun w => by rw [show binOp .neq t .nilIface .nilIface = (do pure (.bool (!(← Op.equal t .nilIface .nilIface)))) from rfl, Sem.run_bind, hE]; rfl⟩)), fun op ox oy w hl => ?_⟩
        have hg : lit = false → ∀ w, (Op.eqGuardIn Op.maxDepth t .nilIface .nilIface).run P w = .ok false w := fun h w => by
          have hm : ms = #[] := by have := hend.2 h; simpa using this
          have hg0 : ∀ d w, (Op.eqGuardIn (d + 1) t .nilIface .nilIface).run P w = .ok false w := fun d w => by simp [Op.eqGuardIn, run_underlying hd, hm]
          exact hg0 9999 w
        cases op <;> first | rfl | skip
        all_goals
          cases ox <;> cases oy <;> simp only [litD] at hl <;> subst hl <;> simp [eqGuard, hg]
      | iface t' z =>
        simp only [VRel] at hy; obtain ⟨z', rfl, _⟩ := hy
        exact other false h (fun d w => by simp [Op.equalIn, run_underlying hd]) rfl rfl (by simp) (by simp)
      | _ => exact (Ok_fail h).elim
    | iface t' z =>
      simp only [VRel] at hx; obtain ⟨z', rfl, _⟩ := hx
      cases y with
      | nili =>
        simp only [VRel] at hy; subst hy
        exact other false h (fun d w => by simp [Op.equalIn, run_underlying hd]) rfl rfl (by simp) (by simp)
      | _ => exact (Ok_fail h).elim
    | _ => exact (Ok_fail h).elim
  | _ => exact (Ok_fail h).elim
end Go.Proofs.YtcongfiojbajeaaD

/- Operation by operation: cells that are read, appends, copies, conversions. Conditions: none. -/
namespace Go.Proofs.YtcongfiojbajeaaD
open Go Go.RowKit
set_option linter.unusedVariables false
set_option linter.unusedSimpArgs false
variable {P : Program} {E : Env} {nb base : Nat} {w0 w : World} {ρ : Rho} {s : St} {outs : Outs}

/-! ### a text's bytes as cells -/
def bcell (b : UInt8) : DVal := .int .u8 (Int.ofNat b.toNat)
theorem bcells_rel (l : List UInt8) : VsRel ρ (l.map bcell) (l.map fun b => Value.int .u8 b.toNat) := by
  induction l with
  | nil => exact VsRel.nil
  | cons b l ih => exact VsRel.cons (by simp only [bcell, VRel]; rfl) ih
theorem bcells_ones (l : List UInt8) : ones (l.map bcell) = true := by
  simp only [ones, List.all_map, List.all_eq_true]; intro b _; rfl
theorem num_snoc (l : List UInt8) (b : UInt8) : num (l ++ [b]) = num l * 256 + b.toNat := by
  rw [num_append]; simp [num_cons, num_nil]
theorem sbytes_eq : ∀ (n : Nat) (l : List UInt8) (acc : List DVal) (c : List DVal → HM), l.length = n → sbytes n (num l) acc c = c (l.map bcell ++ acc) := by
  intro n
  induction n with
  | zero => intro l acc c h; have := List.length_eq_zero_iff.1 h; subst this; rfl
  | succ n ih =>
    intro l acc c h
    obtain ⟨l, b, rfl⟩ : ∃ (l' : List UInt8) (b : UInt8), l = l' ++ [b] := ⟨l.dropLast, l.getLast (by intro e; simp [e] at h), (List.dropLast_concat_getLast _).symm⟩
    have hb : b.toNat < 256 := b.toNat_lt
    show fN (Nat.mod (num (l ++ [b])) 256) (fun q => fN (Nat.div (num (l ++ [b])) 256) fun x => sbytes n x (.int .u8 (Int.ofNat q) :: acc) c) = _
    rw [fN_eq, fN_eq, num_snoc]
    have e1 : Nat.mod (num l * 256 + b.toNat) 256 = b.toNat := by show (num l * 256 + b.toNat) % 256 = _; omega
    have e2 : Nat.div (num l * 256 + b.toNat) 256 = num l := by show (num l * 256 + b.toNat) / 256 = _; omega
    rw [e1, e2, ih l _ c (by simpa using h)]
    simp [bcell]
/-- The first cells of a slice, of a text. -/
theorem cellsX_ok {sz n : Nat} {x : DVal} {v : Value} {c : List DVal → HM} (hv : VRel ρ x v) (hn : ∀ k, (Builtin.lenOf v).run P w = .ok k w → n ≤ k) (r : Rel P nb base w0 ρ s.h w) (hok : Ok nb (cellsX sz n x c) s outs) :
    ∃ cs us s', s'.h = s.h ∧ VsRel ρ cs us ∧ ones cs = true ∧ us.length = n * sz ∧
      (∀ w' : World, w'.heap = w.heap → (Builtin.firstCells sz n v).run P w' = .ok us.toArray w') ∧ Ok nb (c cs) s' outs := by
  cases x with
  | nils =>
    cases n with
    | zero =>
      simp only [VRel] at hv
      subst hv
      exact ⟨[], [], s, rfl, VsRel.nil, rfl, by simp, fun w' _ => by simp [Builtin.firstCells], hok⟩
    | succ n => exact (Ok_fail hok).elim
  | str m x =>
    simp only [VRel] at hv
    obtain ⟨t, rfl, rfl, rfl⟩ := hv
    simp only [cellsX, brec, band, ble_iff, beq_iff] at hok
    by_cases hm : n ≤ t.data.toList.length ∧ sz = 1
    · rw [if_pos hm] at hok
      obtain ⟨hm, rfl⟩ := hm
      have hsz : t.data.toList.length = t.size := by simp
      have e : Nat.div (num t.data.toList) (Nat.pow 256 (Nat.sub t.data.toList.length n)) = num (t.data.toList.take n) := (num_take _ _ hm).symm
      rw [e, sbytes_eq n _ _ _ (by simp; omega), List.append_nil] at hok
      refine ⟨_, (t.data.toList.take n).map fun b => Value.int .u8 b.toNat, s, rfl, bcells_rel _, bcells_ones _, by simp; omega, fun w' _ => ?_, hok⟩
      simp only [Builtin.firstCells, Sem.run_pure]
      congr 1
      apply Array.ext'
      rw [Array.toList_map, extract_list]; simp
    · rw [if_neg hm] at hok; exact (Ok_fail hok).elim
  | slice b o l cp ex =>
    simp only [VRel] at hv
    obtain ⟨c1, sh, cp', hρ, rfl, _⟩ := hv
    cases n with
    | zero => exact ⟨[], [], s, rfl, VsRel.nil, rfl, by simp, fun w' _ => by simp [Builtin.firstCells, loadCells, loadCellsFrom], hok⟩
    | succ n =>
      obtain ⟨ob, s1, hs1, hg, hok⟩ := Ok_get hok
      obtain ⟨oc, hoc, hor⟩ := r.at hρ hg
      cases ob with
      | cells cs e opn fl fh =>
        obtain ⟨c', fz, rfl, h1, h2, h3, h4, h5⟩ := hor.cells_inv
        simp only at hok
        rw [lsplit_eq] at hok
        by_cases hl1 : o ≤ cs.length
        · rw [if_pos hl1, lsplit_eq] at hok
          by_cases hl2 : Nat.mul (n + 1) sz ≤ (cs.drop o).length
          · rw [if_pos hl2] at hok
            have hl3 : (n + 1) * sz ≤ cs.length - o := by simpa using hl2
            refine ⟨_, (c'.toList.drop (sh + o)).take ((n + 1) * sz), s1, hs1, sub_rel h3 (by omega), ones_take _ (ones_drop _ h4), by simp; omega, fun w' hw => ?_, hok⟩
            simp only [Builtin.firstCells]
            exact run_read (by rw [hw]; exact hoc) (by omega)
          · rw [if_neg hl2] at hok; exact (Ok_fail hok).elim
        · rw [if_neg hl1] at hok; exact (Ok_fail hok).elim
      | _ => exact (Ok_fail hok).elim
  | _ => exact (Ok_fail hok).elim
theorem lenD_ok {x : DVal} {v : Value} {k : Nat → HM} (hv : VRel ρ x v) (hok : Ok nb (lenD x k) s outs) : ∃ n, (∀ w, (Builtin.lenOf v).run P w = .ok n w) ∧ Ok nb (k n) s outs ∧
    ((∃ t, v = .string t ∧ n = t.size) ∨ (∃ a cp, v = .slice a n cp)) := by
  cases x with
  | nils => simp only [VRel] at hv; subst hv; exact ⟨0, fun w => rfl, hok, .inr ⟨none, 0, rfl⟩⟩
  | str n x => simp only [VRel] at hv; obtain ⟨t, rfl, rfl, rfl⟩ := hv; exact ⟨_, fun w => by simp [Builtin.lenOf], hok, .inl ⟨t, rfl, by simp⟩⟩
  | slice b o l cp ex => simp only [VRel] at hv; obtain ⟨c, sh, cp', _, rfl, _⟩ := hv; exact ⟨l, fun w => rfl, hok, .inr ⟨_, _, rfl⟩⟩
  | _ => exact (Ok_fail hok).elim

/-! ### numbers of cells, room -/
theorem Ok_brec {f t : HM} {b : Bool} (h : Ok nb (Bool.rec f t b : HM) s outs) : (b = true ∧ Ok nb t s outs) ∨ (b = false ∧ Ok nb f s outs) := by
  cases b with
  | true => exact .inl ⟨rfl, h⟩
  | false => exact .inr ⟨rfl, h⟩
theorem Ok_chk {t : HM} {b : Bool} (h : Ok nb (Bool.rec .fail t b : HM) s outs) : b = true ∧ Ok nb t s outs := by
  rcases Ok_brec h with h | ⟨_, h⟩
  · exact h
  · exact (Ok_fail h).elim
theorem cut_cap (need old : Nat) (e : TypeId) (t : Nat) : need ≤ (Question.appendCap need old e).cut t := by simp [Question.cut]
/-- An open block, new: the model's row goes on behind what is known. -/
theorem new_open {cs : List DVal} {e fl fh : Nat} {k : Nat → HM} (hok : Ok nb (.new (.cells cs e true fl fh) k) s outs) (r : Rel P nb base w0 ρ s.h w) {i : TypeInfo} (hi : P.info? e = some i)
    {c' : Array Value} {fz : Nat × Nat} (hl : cs.length ≤ c'.size) (hr : VsRel ρ cs (c'.toList.take cs.length)) (h1 : ones cs = true) (hfz : ∀ i, i < c'.size → fz.1 ≤ i → i < fz.2 → False) (hft : fl + fh ≠ 0 → fz.1 = fz.2)
    {w' : World} (hc : w'.heap[w.heap.size]? = some (.cells c' e fz)) (hold : ∀ (k : Nat) (ok : Obj), w.heap[k]? = some ok → w'.heap[k]? = some ok) (hbel : Below base w w') :
    ∃ ρ' b s', ρ.le ρ' ∧ ρ' b = some (w.heap.size, 0) ∧ ρ'.lim w.heap.size = some (c'.size, i.size) ∧ Rel P nb base w0 ρ' s'.h w' ∧ Ok nb (k b) s' outs := by
  obtain ⟨g, hn, s', hs', hok⟩ := Ok_new hok
  have hlim : ρ.lim w.heap.size = none := by
    cases e : ρ.lim w.heap.size with
    | none => rfl
    | some x =>
      obtain ⟨a, e, fz, i, h1, _⟩ := r.lims _ x.1 x.2 e
      have := (Array.getElem?_eq_some_iff.1 h1).1
      omega
  have hle0 := Rho.le_add (ρ := ρ) w.heap.size 0 (some (c'.size, i.size)) ((r.dom s.n (by omega)).2 g) (fun _ => hlim)
  obtain ⟨hrel, hle⟩ := r.new (oc := .cells c' e fz) (some (c'.size, i.size)) hn g (o := .cells cs e true fl fh) (fun m es h => by cases h; exact ⟨c', e, fz, i, rfl, rfl, hi, rfl⟩)
    ⟨c', fz, rfl, by omega, fun h => (by cases h), by have := hr.mono hle0; simpa using this, h1, ⟨fun i _ i2 i3 i4 => (hfz i i2 i3 i4).elim, fun h => .inl (hft h)⟩⟩ hc hold hbel
  exact ⟨_, s.n, s', hle, by simp [Rho.add_f], by simp [Rho.add], by rw [hs']; exact hrel, hok⟩
theorem slice_open {b c l cp' es n : Nat} (h : ρ b = some (c, 0)) (hl : ρ.lim c = some (n, es)) (h1 : l ≤ cp') (h2 : cp' * es ≤ n) : VRel ρ (.slice b 0 l l (es + 1)) (.slice (some ⟨c, 0, none⟩) l cp') :=
  slice_rel h h1 (fun e => by omega) (Nat.le_refl _) (fun es' e => ⟨n, by rw [show es' = es from by omega]; exact hl, by rw [show es' = es from by omega]; exact h2⟩)

/-! ### append -/
/-- Go's append, with room. -/
theorem run_append_in {t t2 e ty : Nat} {d2 : TypeDesc} {i : TypeInfo} (ht : P.underlying t = some (.slice e)) (h2 : P.underlying t2 = some d2) (hni : isSS d2 = true) (hi : P.info? e = some i)
    {a : Option Addr} {l cap n : Nat} {v : Value} {us : List Value} (hlen : ∀ w, (Builtin.lenOf v).run P w = .ok n w) (hf : (Builtin.firstCells i.size n v).run P w = .ok us.toArray w) (hroom : l + n ≤ cap) :
    (Builtin.append_ #[t, t2] ty #[.slice a l cap, v]).run P w = (match a with
      | some a => (storeCells (a.add (l * i.size)) us).run P w |>.andThen fun _ w' => .ok (.slice (some a) (l + n) cap) w'
      | none => .ok (.slice none (l + n) cap) w) := by
  cases a <;> cases d2 <;> first | (cases hni; done) | simp [Builtin.append_, run_underlying ht, run_underlying h2, run_size hi, hlen, hroom, hf]
/-- Go's append, without. -/
theorem run_append_new {t t2 e ty : Nat} {d2 : TypeDesc} {i : TypeInfo} {z : Value} (ht : P.underlying t = some (.slice e)) (h2 : P.underlying t2 = some d2) (hni : isSS d2 = true) (hi : P.info? e = some i) (hz : ∀ w, (zeroValue e).run P w = .ok z w)
    {a : Option Addr} {l cap n : Nat} {v : Value} {os us : List Value} (hlen : ∀ w, (Builtin.lenOf v).run P w = .ok n w)
    (ho : ∀ w' : World, w'.heap = w.heap → (Builtin.firstCells i.size l (.slice a l cap)).run P w' = .ok os.toArray w') (hf : ∀ w' : World, w'.heap = w.heap → (Builtin.firstCells i.size n v).run P w' = .ok us.toArray w')
    (hroom : cap < l + n) (hb : (l + n) * i.bytes ≤ 1000000000000) (hsmall : l + n ≤ 1000000000000) :
    (Builtin.append_ #[t, t2] ty #[.slice a l cap, v]).run P w = .ok (.slice (some ⟨w.heap.size, 0, none⟩) (l + n) (grownCap w (l + n) cap e))
      (w.drew.alloc (.cells (os.toArray ++ us.toArray ++ Builtin.zeroCells z.cells (grownCap w (l + n) cap e - (l + n))) e)) := by
  have hr : ¬ (l + n ≤ cap) := by omega
  have h48 : ¬ (Builtin.nextslicecap (l + n) cap * i.bytes > 2 ^ 48) := by
    have h := nextslicecap_le hroom
    have : Builtin.nextslicecap (l + n) cap * i.bytes ≤ 2 * (l + n) * i.bytes := Nat.mul_le_mul_right _ h
    have e : 2 * (l + n) * i.bytes = 2 * ((l + n) * i.bytes) := Nat.mul_assoc ..
    omega
  have h63 : ∀ q, ¬ (((l + n : Nat) : Int) > IntKind.i64.max ∧ q) := by
    rintro q ⟨h1, _⟩
    rw [show IntKind.i64.max = 9223372036854775807 from rfl] at h1
    omega
  have hod := ho w.drew rfl
  have hfd := hf w.drew rfl
  cases d2 <;> first | (cases hni; done) | skip
  all_goals
   simp only [Builtin.append_, List.getElem?_toArray, List.getElem?_cons_zero, List.getElem?_cons_succ, Sem.run_bind, run_underlying ht, run_underlying h2, run_size hi, hlen, Result.andThen_ok, if_neg hr, run_info hi, Sem.run_ite, if_neg h48, if_neg (h63 _), Bool.false_eq_true, if_false, Sem.run_pure, run_choose, Question.forced, run_askRoom]
   have e : ({ w with drawn := w.drawn + 1 } : World) = w.drew := rfl
   rw [e]
   simp only [hod, hfd, Result.andThen_ok, Bool.not_false, if_true, hz, newRow, run_newObj_alloc, Sem.run_pure, Sem.run_bind]
   rfl

/-- The new row of an append. -/
theorem append_new_ok {e l n fl fh : Nat} {i : TypeInfo} {z : Value} {cs : List DVal} {os us : List Value} {k : Nat → HM} (r : Rel P nb base w0 ρ s.h w) (hi : P.info? e = some i) (hzs : z.cells.size = i.size)
    (hcs : VsRel ρ cs (os ++ us)) (h1 : ones cs = true) (ho : os.length = l * i.size) (hu : us.length = n * i.size) (cap : Nat)
    (hok : Ok nb (.new (.cells cs e true fl fh) k) s outs) :
    ∃ ρ' b s', ρ.le ρ' ∧ Rel P nb base w0 ρ' s'.h (w.drew.alloc (.cells (os.toArray ++ us.toArray ++ Builtin.zeroCells z.cells (grownCap w (l + n) cap e - (l + n))) e)) ∧
      VRel ρ' (.slice b 0 (l + n) (l + n) (i.size + 1)) (.slice (some ⟨w.heap.size, 0, none⟩) (l + n) (grownCap w (l + n) cap e)) ∧ Ok nb (k b) s' outs := by
  have hcut : l + n ≤ grownCap w (l + n) cap e := cut_cap _ _ _ _
  generalize grownCap w (l + n) cap e = gc at hcut ⊢
  have hzl : (Builtin.zeroCells z.cells (gc - (l + n))).size = (gc - (l + n)) * i.size := by simp [Builtin.zeroCells, hzs]
  have hlen := hcs.len
  have hsz : (os.toArray ++ us.toArray ++ Builtin.zeroCells z.cells (gc - (l + n))).size = gc * i.size := by
    simp only [Array.size_append, List.size_toArray, hzl, ho, hu, ← Nat.add_mul]
    congr 1; omega
  have hbig : (l + n) * i.size ≤ gc * i.size := Nat.mul_le_mul_right _ hcut
  have hcl : cs.length = (l + n) * i.size := by rw [hlen, List.length_append, ho, hu, Nat.add_mul]
  obtain ⟨ρ', b, s2, hle, hb, hlim, hrel, hok⟩ := new_open (fz := (0, 0)) (c' := os.toArray ++ us.toArray ++ Builtin.zeroCells z.cells (gc - (l + n))) hok r hi
    (by rw [hsz, hcl]; exact hbig) (by
      rw [hlen]
      have : ((os.toArray ++ us.toArray ++ Builtin.zeroCells z.cells (gc - (l + n))).toList.take (os ++ us).length) = os ++ us := by simp [List.take_append]; exact List.take_of_length_le (by omega)
      rw [this]; exact hcs) h1 (fun i _ _ h => by simp at h) (fun _ => rfl)
    (w' := w.drew.alloc (.cells (os.toArray ++ us.toArray ++ Builtin.zeroCells z.cells (gc - (l + n))) e)) (World.alloc_heap_new w.drew _) (alloc_old w.drew _)
    (((Below.refl _ _).drew).alloc r.size _)
  exact ⟨ρ', b, s2, hle, hrel, slice_open hb hlim hcut (by rw [hsz]; exact Nat.le_refl _), hok⟩
theorem append_sim (he : EOk P E) {t t2 ty : Nat} {x y : DVal} {u v : Value} (hx : VRel ρ x u) (hy : VRel ρ y v) : Sim P nb base w0 ρ w (Builtin.append_ #[t, t2] ty #[u, v]) (appendX E t t2 x y) VRel := by
  intro k s outs hok r
  unfold appendX at hok
  obtain ⟨d, hd, hok⟩ := Ok_desc he hok
  obtain ⟨d2, hd2, hok⟩ := Ok_desc he hok
  obtain ⟨hss, hok⟩ := Ok_chk hok
  cases d with
  | slice e =>
    simp only at hok
    obtain ⟨i, hi, hok⟩ := Ok_sizeB he hok
    obtain ⟨z, zs, hz, hzr, _, hok⟩ := Ok_zero (ρ := ρ) he hok
    obtain ⟨hzc, hok⟩ := Ok_chk hok
    have hzs : z.cells.size = i.size := by
      rw [beq_iff, llen_eq] at hzc
      have := hzr.len
      rw [hzc, this]; simp
    obtain ⟨m, hlen, hok, _⟩ := lenD_ok hy hok
    have hmk : ∀ k, (Builtin.lenOf v).run P w = .ok k w → m ≤ k := fun k h => by rw [hlen w] at h; cases h; exact Nat.le_refl _
    -- nothing to append
    have nothing : ∀ (a : Option Addr) (l cap : Nat), u = .slice a l cap → l ≤ cap → m = 0 → (Builtin.append_ #[t, t2] ty #[u, v]).run P w = .ok (.slice a l cap) w := by
      intro a l cap hu hl hm
      subst hu hm
      have hf : (Builtin.firstCells i.size 0 v).run P w = .ok ([] : List Value).toArray w := by
        cases v with
        | slice b n c => cases b <;> simp [Builtin.firstCells, loadCells, loadCellsFrom]
        | string t => simp [Builtin.firstCells]
        | _ => have := hlen w; simp [Builtin.lenOf] at this
      have := run_append_in (ty := ty) (a := a) hd hd2 hss hi hlen hf (by omega : l + 0 ≤ cap)
      rw [this]
      cases a with
      | none => rfl
      | some a => simp [storeCells]
    cases x with
    | nils =>
      simp only [VRel] at hx
      subst hx
      cases m with
      | zero => exact ⟨ρ, w, _, _, s, ρ.le_refl, nothing none 0 0 rfl (Nat.le_refl _) rfl, r, by simp [VRel], hok⟩
      | succ m =>
        obtain ⟨hc, hok⟩ := Ok_chk hok
        simp only [band, ble_iff] at hc
        obtain ⟨cs, us, s1, hs1, h1, h2, h3, hf, hok⟩ := cellsX_ok hy hmk r hok
        have hbytes : (0 + (m + 1)) * i.bytes ≤ 1000000000000 := by rw [Nat.zero_add]; exact hc.2
        have hrun := run_append_new (ty := ty) (a := none) (l := 0) (cap := 0) (os := []) hd hd2 hss hi hz hlen (fun w' _ => by simp [Builtin.firstCells]) hf (by omega) hbytes (by omega)
        have hrd : Rel P nb base w0 ρ s1.h w := by rw [hs1]; exact r
        obtain ⟨ρ', b, s2, hle, hrel, hv, hok⟩ := append_new_ok (l := 0) (n := m + 1) (os := []) hrd hi hzs (by simpa using h1) h2 (by simp) h3 0 hok
        rw [Nat.zero_add] at hrun hrel hv
        exact ⟨ρ', _, _, _, s2, hle, hrun, hrel, hv, hok⟩
    | slice b o l cp ex =>
      have hx0 := hx
      simp only [VRel] at hx
      obtain ⟨c, sh, cp', hρ, rfl, hcp, hex, hl, hlim⟩ := hx
      cases m with
      | zero =>
        refine ⟨ρ, w, _, _, s, ρ.le_refl, nothing _ l cp' rfl (by omega) rfl, r, hx0, hok⟩
      | succ m =>
        have hok := Ok_fN hok
        obtain ⟨hc, hok⟩ := Ok_chk hok
        simp only [band, ble_iff] at hc
        have hc1 : l + (m + 1) ≤ 1000000000000 := hc.1
        have hc2 : (l + (m + 1)) * i.bytes ≤ 1000000000000 := hc.2
        rcases Ok_brec hok with ⟨hroom, hok⟩ | ⟨hroom, hok⟩
        · -- there is room
          rw [ble_iff] at hroom
          have hroom : l + (m + 1) ≤ cp := hroom
          obtain ⟨cs, us, s1, hs1, h1, h2, h3, hf, hok⟩ := cellsX_ok hy hmk r hok
          have hrd : Rel P nb base w0 ρ s1.h w := by rw [hs1]; exact r
          obtain ⟨w', s2, hst, hrel, hok⟩ := storeC_sim (P := P) hρ h1 h2 hok hrd
          have hrun := run_append_in (ty := ty) (a := some ⟨c, sh + o, none⟩) hd hd2 hss hi hlen (hf w rfl) (by omega : l + (m + 1) ≤ cp')
          simp only [add_at] at hrun
          have e1 : sh + o + l * i.size = sh + Nat.add o (Nat.mul l i.size) := Nat.add_assoc ..
          rw [e1, hst, Result.andThen_ok] at hrun
          refine ⟨ρ, w', _, _, s2, ρ.le_refl, hrun, hrel, ?_, hok⟩
          simp only [VRel]
          exact ⟨c, sh, cp', hρ, rfl, hcp, hex, hroom, hlim⟩
        · have hnroom : ¬ l + (m + 1) ≤ cp := by
            intro h
            have : Nat.ble (Nat.add l (m + 1)) cp = true := by rw [ble_iff]; exact h
            rw [this] at hroom; cases hroom
          have hol : ∀ k, (Builtin.lenOf (.slice (some ⟨c, sh + o, none⟩) l cp')).run P w = .ok k w → l ≤ k := fun k h => by cases h; exact Nat.le_refl _
          rcases Ok_brec hok with ⟨hx, hok⟩ | ⟨hx, hok⟩
          · -- surely none
            rw [beq_iff] at hx
            have hcc := hex hx
            obtain ⟨olds, os, s1, hs1, o1, o2, o3, hfo, hok⟩ := cellsX_ok hx0 hol r hok
            have hrd : Rel P nb base w0 ρ s1.h w := by rw [hs1]; exact r
            obtain ⟨cs, us, s2, hs2, h1, h2, h3, hf, hok⟩ := cellsX_ok hy hmk hrd hok
            have hrd2 : Rel P nb base w0 ρ s2.h w := by rw [hs2]; exact hrd
            rw [lapp_eq] at hok
            have hrun := run_append_new (ty := ty) (a := some ⟨c, sh + o, none⟩) (l := l) (cap := cp') hd hd2 hss hi hz hlen hfo hf (by omega) hc2 hc1
            obtain ⟨ρ', b', s3, hle, hrel, hv, hok⟩ := append_new_ok (l := l) (n := m + 1) hrd2 hi hzs (o1.app h1) (ones_app o2 h2) o3 h3 cp' hok
            exact ⟨ρ', _, _, _, s3, hle, hrun, hrel, hv, hok⟩
          · -- who knows
            obtain ⟨hx, hok⟩ := Ok_chk hok
            rw [beq_iff] at hx
            obtain ⟨nn, hl1, hl2⟩ := hlim i.size hx
            obtain ⟨olds, os, s1, hs1, o1, o2, o3, hfo, hok⟩ := cellsX_ok hx0 hol r hok
            have hrd : Rel P nb base w0 ρ s1.h w := by rw [hs1]; exact r
            obtain ⟨cs, us, s2, hs2, h1, h2, h3, hf, hok⟩ := cellsX_ok hy hmk hrd hok
            have hrd2 : Rel P nb base w0 ρ s2.h w := by rw [hs2]; exact hrd
            rw [lapp_eq] at hok
            obtain ⟨ob, s3, hs3, hg, hok⟩ := Ok_get hok
            have hrd3 : Rel P nb base w0 ρ s3.h w := by rw [hs3]; exact hrd2
            obtain ⟨oc, hoc, hor⟩ := hrd2.at hρ hg
            cases ob with
            | cells ocs e' opn fl fh =>
              obtain ⟨hcc, hok⟩ := Ok_chk hok
              simp only [band, beq_iff, ble_iff] at hcc
              obtain ⟨rfl, hfh, hof⟩ := hcc
              obtain ⟨hnb, s4, hs4, hok⟩ := Ok_set hok
              have hdie : Rel P nb base w0 ρ s4.h w := by rw [hs4, hs3]; exact hrd2.die (by omega) hg
              by_cases hin : l + (m + 1) ≤ cp'
              · -- in place
                obtain ⟨c', fz, rfl, g1, g2, g3, g4, g5⟩ := hor.cells_inv
                obtain ⟨ga, ge, gfz, gi, q1, q2, q3, q4⟩ := r.lims c nn i.size hl1
                rw [hoc] at q1
                cases q1
                have hposs : (sh + o) + (l + (m + 1)) * i.size ≤ c'.size := by
                  have := Nat.mul_le_mul_right i.size hin
                  omega
                have hsplit : (l + (m + 1)) * i.size = l * i.size + (m + 1) * i.size := Nat.add_mul ..
                have hrun := run_append_in (ty := ty) (a := some ⟨c, sh + o, none⟩) hd hd2 hss hi hlen (hf w rfl) hin
                obtain ⟨w', hst, hupd⟩ := storeC_sim.run_store_all (P := P) us (sh + o + l * i.size) hoc (by omega) (h1.ones h2) (fun j j1 j2 => by
                  intro hz
                  have := g5.1 j (by omega) (by omega) hz.1 hz.2
                  have : fh ≤ o + l * i.size := hfh
                  omega)
                simp only [add_at] at hrun
                rw [hst, Result.andThen_ok] at hrun
                obtain ⟨g, hn, s5, hs5, hok⟩ := Ok_new hok
                have hnone := (hdie.dom s4.n (by omega)).2 g
                have hle := Rho.le_add (ρ := ρ) c (sh + o) none hnone (fun h => by cases h)
                refine ⟨ρ.add s4.n c (sh + o) none, w', _, _, s5, hle, hrun, ?_, ?_, hok⟩
                · rw [hs5]
                  have hosl : os = (c'.toList.drop (sh + o)).take (l * i.size) := by
                    have e1 := hfo w rfl
                    have e2 : (Builtin.firstCells i.size l (.slice (some ⟨c, sh + o, none⟩) l cp')).run P w = .ok ((c'.toList.drop (sh + o)).take (l * i.size)).toArray w := by
                      simp only [Builtin.firstCells]
                      exact run_read hoc (by omega)
                    rw [e2] at e1
                    injection e1 with e1
                    exact (List.toArray_inj e1).symm
                  refine hdie.name hn g hupd.same (.inl (hrd2.low b _ c sh hnb hg (by simp) hρ)) (.inr fun k ok sh' hk hk1 gk dk ek => ?_) (fun k ok hk h => by rw [hupd.other k hk]; exact h) (.inr (by simp)) hupd.shape (fun h => by cases h) (fun _ _ h => by cases h)
                    ⟨hupd.os, hupd.tape, hupd.output, Nat.le_of_eq hupd.size.symm, fun k hk => hupd.other k (by have := hrd2.low b _ c sh hnb hg (by simp) hρ; omega)⟩ ?_
                  · rw [hs4, T.get_put _ _ _ _ (by omega) hk1] at gk
                    by_cases hkb : k = b
                    · rw [if_pos hkb] at gk; exact dk (Option.some.inj gk).symm
                    · rw [if_neg hkb, hs3] at gk
                      exact hkb (hrd2.inj k b ok _ c sh' sh hk1 (by omega) gk hg dk (by simp) ek hρ)
                  · have hlen2 : (olds ++ cs).length = (l + (m + 1)) * i.size := by rw [List.length_append, o1.len, h1.len, o3, h3, hsplit]
                    refine ⟨_, fz, rfl, ?_, fun h => (by cases h), ?_, ones_app o2 h2, ⟨fun j j1 j2 j3 j4 => ?_, fun hne => ?_⟩⟩
                    · rw [hlen2]; simp; omega
                    · rw [hlen2]
                      have e1 : ((c'.toList.take (sh + o + l * i.size) ++ us ++ c'.toList.drop (sh + o + l * i.size + us.length)).toArray.toList.drop (sh + o)).take ((l + (m + 1)) * i.size) = os ++ us := by
                        rw [hosl]
                        apply List.ext_getElem?
                        intro j
                        simp only [List.getElem?_take, List.getElem?_drop, List.getElem?_append, List.length_take, List.length_append, List.length_drop, Array.length_toList]
                        rw [h3]
                        by_cases j1 : j < l * i.size
                        · rw [if_pos (by omega), if_pos (by omega), if_pos (by omega), if_pos (by omega), if_pos (by omega), if_pos (by omega)]
                        · by_cases j2 : j < (l + (m + 1)) * i.size
                          · rw [if_pos j2, if_pos (by omega), if_neg (by omega), if_neg (by omega)]
                            congr 1; omega
                          · rw [if_neg j2, if_neg (by omega)]
                            rw [List.getElem?_eq_none]
                            omega
                      rw [e1]
                      exact (o1.app h1).mono hle _ _
                    · have := g5.1 j (by omega) (by simp at j2; omega) j3 j4
                      have hof' : o = 0 ∨ fl + fh = 0 := by
                        rcases Bool.or_eq_true_iff.1 hof with h | h
                        · exact .inl (by rwa [beq_iff] at h)
                        · exact .inr (by rwa [beq_iff] at h)
                      rcases hof' with h | h
                      · subst h; omega
                      · omega
                    · have hof' : o = 0 ∨ fl + fh = 0 := by
                        rcases Bool.or_eq_true_iff.1 hof with h | h
                        · exact .inl (by rwa [beq_iff] at h)
                        · exact .inr (by rwa [beq_iff] at h)
                      rcases hof' with h | h
                      · subst h; exact g5.2 hne
                      · exact absurd h hne
                · simp only [VRel]
                  refine ⟨c, sh + o, cp', by simp [Rho.add_f], by simp, hin, fun h => by omega, Nat.le_refl _, fun es h => ⟨nn, ?_, ?_⟩⟩
                  · have : es = i.size := by omega
                    rw [this]; exact hle.lim _ _ hl1
                  · have : es = i.size := by omega
                    rw [this]; omega
              · -- a new row
                have hrun := run_append_new (ty := ty) (a := some ⟨c, sh + o, none⟩) (l := l) (cap := cp') hd hd2 hss hi hz hlen hfo hf (by omega) hc2 hc1
                obtain ⟨ρ', b', s5, hle, hrel, hv, hok⟩ := append_new_ok (l := l) (n := m + 1) hdie hi hzs (o1.app h1) (ones_app o2 h2) o3 h3 cp' hok
                rw [hx] at hok
                exact ⟨ρ', _, _, _, s5, hle, hrun, hrel, hv, hok⟩
            | _ => exact (Ok_fail hok).elim
    | _ => exact (Ok_fail hok).elim
  | _ => exact (Ok_fail hok).elim
end Go.Proofs.YtcongfiojbajeaaD

/- Operation by operation: copies, conversions, lengths, least and greatest, two operands. Conditions: none. -/
namespace Go.Proofs.YtcongfiojbajeaaD
open Go Go.RowKit
set_option linter.unusedVariables false
set_option linter.unusedSimpArgs false
variable {P : Program} {E : Env} {nb base : Nat} {w0 w : World} {ρ : Rho} {s : St} {outs : Outs}

theorem copy_sim (he : EOk P E) {t t2 ty : Nat} {x y : DVal} {u v : Value} (hx : VRel ρ x u) (hy : VRel ρ y v) : Sim P nb base w0 ρ w (Builtin.copy_ #[t, t2] ty #[u, v]) (copyX E t x y) VRel := by
  intro k s outs hok r
  unfold copyX at hok
  obtain ⟨d, hd, hok⟩ := Ok_desc he hok
  cases d with
  | slice e =>
    simp only at hok
    obtain ⟨i, hi, hok⟩ := Ok_size he hok
    obtain ⟨m, hlen, hok, _⟩ := lenD_ok (P := P) hy hok
    have zero : ∀ (a : Option Addr) (l cap : Nat), u = .slice a l cap → Nat.min m l = 0 → (Builtin.copy_ #[t, t2] ty #[u, v]).run P w = .ok (.int .i64 0) w := by
      intro a l cap hu hm
      subst hu
      have hf : (Builtin.firstCells i.size 0 v).run P w = .ok ([] : List Value).toArray w := by
        cases v with
        | slice b n c => cases b <;> simp [Builtin.firstCells, loadCells, loadCellsFrom]
        | string t => simp [Builtin.firstCells]
        | _ => have := hlen w; simp [Builtin.lenOf] at this
      cases a <;> simp only [Builtin.copy_, List.getElem?_toArray, List.getElem?_cons_zero, List.getElem?_cons_succ, Sem.run_bind, run_underlying hd, Result.andThen_ok, hlen, hm, run_size hi, hf, Sem.run_pure, goInt, storeCells] <;> rfl
    cases x with
    | nils =>
      simp only [VRel] at hx
      subst hx
      exact ⟨ρ, w, _, _, s, ρ.le_refl, zero none 0 0 rfl (Nat.min_eq_right (Nat.zero_le _)), r, by simp [VRel], hok⟩
    | slice b o l cp ex =>
      simp only [VRel] at hx
      obtain ⟨c, sh, cp', hρ, rfl, hcp, hex, hl, hlim⟩ := hx
      have hok := Ok_fN hok
      cases hn : Nat.min m l with
      | zero =>
        rw [hn] at hok
        exact ⟨ρ, w, _, _, s, ρ.le_refl, zero _ l cp' rfl hn, r, by simp [VRel], hok⟩
      | succ n =>
        rw [hn] at hok
        have hmin : n + 1 ≤ m ∧ n + 1 ≤ l := by have h1 := Nat.min_le_left m l; have h2 := Nat.min_le_right m l; have : Nat.min m l = min m l := rfl; omega
        obtain ⟨cs, us, s1, hs1, h1, h2, h3, hf, hok⟩ := cellsX_ok hy (fun k h => by rw [hlen w] at h; cases h; exact hmin.1) r hok
        have hrd : Rel P nb base w0 ρ s1.h w := by rw [hs1]; exact r
        obtain ⟨w', s2, hst, hrel, hok⟩ := storeC_sim (P := P) hρ h1 h2 hok hrd
        refine ⟨ρ, w', _, .int .i64 ((n + 1 : Nat) : Int), s2, ρ.le_refl, ?_, hrel, by simp [VRel], hok⟩
        simp only [Builtin.copy_, List.getElem?_toArray, List.getElem?_cons_zero, List.getElem?_cons_succ, Sem.run_bind, run_underlying hd, Result.andThen_ok, hlen, hn, run_size hi, hf w rfl, hst, Sem.run_pure, goInt]
    | _ => exact (Ok_fail hok).elim
  | _ => exact (Ok_fail hok).elim
theorem snum_ok : ∀ (l : List DVal) (us : List Value) (n x : Nat) (c : Nat → Nat → HM), VsRel ρ l us → Ok nb (snum l n x c) s outs →
    ∃ ns : List Int, us = ns.map (Value.int .u8) ∧ (∀ k ∈ ns, 0 ≤ k ∧ k < 256) ∧ Ok nb (c (n + l.length) (ns.foldl (fun a k => a * 256 + k.toNat) x)) s outs := by
  intro l
  induction l with
  | nil => intro us n x c h hok; rw [VsRel.nil_inv h]; exact ⟨[], rfl, by simp, hok⟩
  | cons d l ih =>
    intro us n x c h hok
    obtain ⟨v, vs, rfl, hv, hvs⟩ := h.cons_inv
    cases d with
    | int k b =>
      cases k with
      | u8 =>
        cases b with
        | ofNat b =>
          have hok : Ok nb (Bool.rec .fail (fN (Nat.add (Nat.mul x 256) b) fun x => snum l (Nat.succ n) x c) (Nat.blt b 256)) s outs := hok
          obtain ⟨hb, hok⟩ := Ok_chk hok
          rw [blt_iff] at hb
          have hok := Ok_fN hok
          obtain ⟨ns, rfl, h2, h3⟩ := ih vs _ _ c hvs hok
          simp only [VRel] at hv
          refine ⟨(b : Int) :: ns, by rw [hv]; rfl, fun k hk => ?_, ?_⟩
          · rcases List.mem_cons.1 hk with rfl | hk
            · exact ⟨Int.natCast_nonneg _, Int.ofNat_lt.2 hb⟩
            · exact h2 k hk
          · rw [show n + (DVal.int .u8 (Int.ofNat b) :: l).length = Nat.succ n + l.length from by simp; omega]
            exact h3
        | negSucc b => exact (Ok_fail hok).elim
      | _ => exact (Ok_fail hok).elim
    | _ => exact (Ok_fail hok).elim

theorem fold_num : ∀ (ns : List Int) (x : Nat), (∀ k ∈ ns, 0 ≤ k ∧ k < 256) → ns.foldl (fun a k => a * 256 + k.toNat) x = numA x (ns.map fun n => UInt8.ofNat n.toNat)
  | [], x, _ => rfl
  | k :: ns, x, h => by
    have hk := h k (by simp)
    have e : (UInt8.ofNat k.toNat).toNat = k.toNat := by simp; omega
    show ns.foldl _ (x * 256 + k.toNat) = numA (x * 256 + (UInt8.ofNat k.toNat).toNat) _
    rw [e, fold_num ns _ fun k hk => h k (by simp [hk])]
theorem unX_sim {op : UnOp} {x : DVal} {v : Value} (hv : VRel ρ x v) : Sim P nb base w0 ρ w (Op.unary op v) (unX op x) VRel := by
  intro k s outs hok r
  cases op with
  | not =>
    cases x with
    | bool b => simp only [VRel] at hv; subst hv; exact ⟨ρ, w, _, .bool (!b), s, ρ.le_refl, by simp [Op.unary], r, by simp only [VRel], hok⟩
    | _ => exact (Ok_fail hok).elim
  | neg =>
    cases x with
    | int kd n =>
      simp only [VRel] at hv; subst hv
      have hok := Ok_fI (show Ok nb (fI (Int.sub 0 n) fun n => k (.int kd (wrD kd n))) s outs from hok)
      rw [wrD_eq] at hok
      exact ⟨ρ, w, _, .int kd (kd.wrap (0 - n)), s, ρ.le_refl, by simp [Op.unary, Op.intArith], r, by simp only [VRel]; rfl, hok⟩
    | _ => exact (Ok_fail hok).elim
  | xor =>
    cases x with
    | int kd n =>
      simp only [VRel] at hv; subst hv
      have hok := Ok_fI (Ok_fN (show Ok nb (fN (Nat.xor (Nat.sub (Nat.pow 2 kd.bits) 1) (bt kd n)) fun n => fI (wrD kd (Int.ofNat n)) fun n => k (.int kd n)) s outs from hok))
      rw [wrD_eq, bt_eq] at hok
      have e : (BitVec.ofInt kd.bits (if kd.signed then -1 else kd.max)).toNat = 2 ^ kd.bits - 1 := by cases kd <;> rfl
      refine ⟨ρ, w, _, .int kd (kd.wrap (((BitVec.ofInt kd.bits (if kd.signed then -1 else kd.max)) ^^^ BitVec.ofInt kd.bits n).toNat : Nat)), s, ρ.le_refl, by simp [Op.unary, Op.intBits], r, ?_, hok⟩
      simp only [VRel]
      rw [BitVec.toNat_xor, e]; rfl
    | _ => exact (Ok_fail hok).elim
  | plus => exact (Ok_fail hok).elim
theorem symX_ok {op : BinOp} {kd : IntKind} {lo hi : Int} {m r : Nat} {b n : Int} {c : K} (h1 : lo ≤ n) (h2 : n ≤ hi) (h3 : Nat.land (BitVec.ofInt kd.bits n).toNat m = r) (hok : Ok nb (symX op kd lo hi m r b c) s outs) : Ok nb (binI op kd n b c) s outs := by
  have il : ∀ a b : Int, (ilt a b = true) = (a < b) := fun a b => by rw [ilt_eq]; simp
  cases op with
  | lss =>
    rcases Ok_brec (show Ok nb (Bool.rec (Bool.rec .fail (c (.bool false)) (Bool.not (ilt lo b))) (c (.bool true)) (ilt hi b)) s outs from hok) with ⟨hq, hok⟩ | ⟨hq, hok⟩
    · rw [il] at hq
      have e : ilt n b = true := by rw [il]; omega
      show Ok nb (c (.bool (ilt n b))) s outs
      rw [e]; exact hok
    · obtain ⟨hz, hok⟩ := Ok_chk hok
      have hz : ¬ ilt lo b = true := by intro h; rw [h] at hz; cases hz
      rw [il] at hz
      have e : ilt n b = false := by
        cases hx : ilt n b with
        | false => rfl
        | true => rw [il] at hx; omega
      show Ok nb (c (.bool (ilt n b))) s outs
      rw [e]; exact hok
  | geq =>
    rcases Ok_brec (show Ok nb (Bool.rec (Bool.rec .fail (c (.bool true)) (Bool.not (ilt lo b))) (c (.bool false)) (ilt hi b)) s outs from hok) with ⟨hq, hok⟩ | ⟨hq, hok⟩
    · rw [il] at hq
      have e : ilt n b = true := by rw [il]; omega
      show Ok nb (c (.bool (Bool.not (ilt n b)))) s outs
      rw [e]; exact hok
    · obtain ⟨hz, hok⟩ := Ok_chk hok
      have hz : ¬ ilt lo b = true := by intro h; rw [h] at hz; cases hz
      rw [il] at hz
      have e : ilt n b = false := by
        cases hx : ilt n b with
        | false => rfl
        | true => rw [il] at hx; omega
      show Ok nb (c (.bool (Bool.not (ilt n b)))) s outs
      rw [e]; exact hok
  | gtr =>
    rcases Ok_brec (show Ok nb (Bool.rec (Bool.rec .fail (c (.bool false)) (Bool.not (ilt b hi))) (c (.bool true)) (ilt b lo)) s outs from hok) with ⟨hq, hok⟩ | ⟨hq, hok⟩
    · rw [il] at hq
      have e : ilt b n = true := by rw [il]; omega
      show Ok nb (c (.bool (ilt b n))) s outs
      rw [e]; exact hok
    · obtain ⟨hz, hok⟩ := Ok_chk hok
      have hz : ¬ ilt b hi = true := by intro h; rw [h] at hz; cases hz
      rw [il] at hz
      have e : ilt b n = false := by
        cases hx : ilt b n with
        | false => rfl
        | true => rw [il] at hx; omega
      show Ok nb (c (.bool (ilt b n))) s outs
      rw [e]; exact hok
  | leq =>
    rcases Ok_brec (show Ok nb (Bool.rec (Bool.rec .fail (c (.bool true)) (Bool.not (ilt b hi))) (c (.bool false)) (ilt b lo)) s outs from hok) with ⟨hq, hok⟩ | ⟨hq, hok⟩
    · rw [il] at hq
      have e : ilt b n = true := by rw [il]; omega
      show Ok nb (c (.bool (Bool.not (ilt b n)))) s outs
      rw [e]; exact hok
    · obtain ⟨hz, hok⟩ := Ok_chk hok
      have hz : ¬ ilt b hi = true := by intro h; rw [h] at hz; cases hz
      rw [il] at hz
      have e : ilt b n = false := by
        cases hx : ilt b n with
        | false => rfl
        | true => rw [il] at hx; omega
      show Ok nb (c (.bool (Bool.not (ilt b n)))) s outs
      rw [e]; exact hok
  | and =>
    obtain ⟨hz, hok⟩ := Ok_chk (show Ok nb (Bool.rec .fail (fI (wrD kd (Int.ofNat r)) fun n => c (.int kd n)) (Nat.beq (bt kd b) m)) s outs from hok)
    rw [beq_iff] at hz
    show Ok nb (fN (Nat.land (bt kd n) (bt kd b)) fun n => fI (wrD kd (Int.ofNat n)) fun n => c (.int kd n)) s outs
    rw [fN_eq, bt_eq kd n, hz, h3]; exact hok
  | _ => exact (Ok_fail hok).elim
theorem binX_sim (he : EOk P E) {op : BinOp} {t : Nat} {ox oy : Operand} {x y : DVal} {u v : Value} (hx : VRel ρ x u) (hy : VRel ρ y v) :
    Sim P nb base w0 ρ w (do eqGuard op t ox oy u v; binOp op t u v) (binX E op t (litD ox oy) x y) VRel := by
  intro k s outs hok r
  have fin : ∀ d q, (∀ w, (eqGuard op t ox oy u v).run P w = .ok () w) → (∀ w, (binOp op t u v).run P w = .ok q w) → VRel ρ d q → Ok nb (k d) s outs →
      ∃ (ρ' : Rho) (w' : World) (x : DVal) (y : Value) (s' : St), ρ.le ρ' ∧ (do eqGuard op t ox oy u v; binOp op t u v : Sem Value).run P w = .ok y w' ∧ Rel P nb base w0 ρ' s'.h w' ∧ VRel ρ' x y ∧ Ok nb (k x) s' outs :=
    fun d q h1 h2 h3 h4 => ⟨ρ, w, d, q, s, ρ.le_refl, by rw [Sem.run_bind, h1, Result.andThen_ok, h2], r, h3, h4⟩
  have guard : (∀ a, u ≠ .agg a) → u ≠ .nilIface → ∀ w, (eqGuard op t ox oy u v).run P w = .ok () w := fun h1 h2 w => by
    unfold eqGuard
    cases op <;> first | rfl | (cases u <;> cases v <;> first | rfl | exact absurd rfl (h1 _) | exact absurd rfl h2)
  have other : Ok nb (binE E op t (litD ox oy) x y k) s outs → (∀ kd n, x ≠ .int kd n) → (∀ n m, x ≠ .str n m) → ∃ (ρ' : Rho) (w' : World) (x : DVal) (y : Value) (s' : St), ρ.le ρ' ∧ (do eqGuard op t ox oy u v; binOp op t u v : Sem Value).run P w = .ok y w' ∧ Rel P nb base w0 ρ' s'.h w' ∧ VRel ρ' x y ∧ Ok nb (k x) s' outs := by
    intro hok hni hns
    have hbool : ∀ b, (∀ w, (Op.equal t u v).run P w = .ok b w) → ((∃ p, u = .bool p) ∨ (∃ k p, x = .int k p) ∨ (∃ n m, x = .str n m) ∨
        ((∀ w, (binOp .eql t u v).run P w = .ok (.bool b) w) ∧ (∀ w, (binOp .neq t u v).run P w = .ok (.bool !b) w))) →
        (∀ w, (binOp .eql t u v).run P w = .ok (.bool b) w) ∧ (∀ w, (binOp .neq t u v).run P w = .ok (.bool !b) w) := by
      intro b h1 h2
      rcases h2 with ⟨p, rfl⟩ | ⟨k, p, h2⟩ | ⟨p, q, h2⟩ | h2
      · refine ⟨fun w => ?_, fun w => ?_⟩
        · rw [show binOp .eql t (.bool p) v = (do pure (.bool (← Op.equal t (.bool p) v))) from by cases v <;> rfl, Sem.run_bind, h1]; rfl
        · rw [show binOp .neq t (.bool p) v = (do pure (.bool (!(← Op.equal t (.bool p) v)))) from by cases v <;> rfl, Sem.run_bind, h1]; rfl
      · exact absurd h2 (hni k p)
      · exact absurd h2 (hns p q)
      · exact h2
    cases op with
    | eql =>
      obtain ⟨b, h1, h2, h3, h4⟩ := eqT_ok he hx hy hok
      exact fin _ _ (fun w => h4 _ _ _ w rfl) (hbool b h2 h3).1 (by simp only [VRel]) h1
    | neq =>
      obtain ⟨b, h1, h2, h3, h4⟩ := eqT_ok he hx hy hok
      exact fin _ _ (fun w => h4 _ _ _ w rfl) (hbool b h2 h3).2 (by simp only [VRel]) h1
    | _ => exact (Ok_fail hok).elim
  cases x with
  | int kd a =>
    cases y with
    | int kd2 b =>
      simp only [VRel] at hx hy
      subst hx hy
      have hg := guard (fun a h => by cases h) (fun h => by cases h)
      have plain : Ok nb (Bool.rec .fail (binI op kd a b k) (keq kd kd2)) s outs → ∃ (ρ' : Rho) (w' : World) (x : DVal) (y : Value) (s' : St), ρ.le ρ' ∧ (do eqGuard op t ox oy (.int kd a) (.int kd2 b); binOp op t (.int kd a) (.int kd2 b) : Sem Value).run P w = .ok y w' ∧ Rel P nb base w0 ρ' s'.h w' ∧ VRel ρ' x y ∧ Ok nb (k x) s' outs := fun hok => by
        obtain ⟨hk, hok2⟩ := Ok_chk hok
        clear hok
        rw [keq_eq] at hk
        subst hk
        obtain ⟨d, q, h1, h2, h3⟩ := binI_ok t hok2
        exact fin d q hg h1 h2 h3
      cases op with
      | shl =>
        obtain ⟨d, q, h1, h2, h3⟩ := shD_ok (k2 := kd2) t (show Ok nb (shD .shl kd a b k) s outs from hok)
        exact fin d q hg h1 h2 h3
      | shr =>
        obtain ⟨d, q, h1, h2, h3⟩ := shD_ok (k2 := kd2) t (show Ok nb (shD .shr kd a b k) s outs from hok)
        exact fin d q hg h1 h2 h3
      | _ => exact plain hok
    | _ => exact (Ok_fail hok).elim
  | str n a =>
    cases y with
    | str m b =>
      simp only [VRel] at hx hy
      obtain ⟨p, rfl, rfl, rfl⟩ := hx
      obtain ⟨q, rfl, rfl, rfl⟩ := hy
      obtain ⟨d, q, h1, h2, h3⟩ := binS_ok t (show Ok nb (binS op p.data.toList.length (num p.data.toList) q.data.toList.length (num q.data.toList) k) s outs from hok)
      exact fin d q (guard (fun a h => by cases h) (fun h => by cases h)) h1 h2 h3
    | _ => exact (Ok_fail hok).elim
  | sym kd lo hi m rr =>
    cases y with
    | int kd2 b =>
      simp only [VRel] at hx hy
      obtain ⟨n, rfl, q1, q2, q3⟩ := hx
      subst hy
      obtain ⟨hk, hok2⟩ := Ok_chk (show Ok nb (Bool.rec .fail (symX op kd lo hi m rr b k) (keq kd kd2)) s outs from hok)
      clear hok
      rw [keq_eq] at hk
      subst hk
      obtain ⟨d, q, h1, h2, h3⟩ := binI_ok t (symX_ok q1 q2 q3 hok2)
      exact fin d q (guard (fun a h => by cases h) (fun h => by cases h)) h1 h2 h3
    | _ => exact (Ok_fail hok).elim
  | _ => exact other hok (fun _ _ h => by cases h) (fun _ _ h => by cases h)
end Go.Proofs.YtcongfiojbajeaaD

/- Operation by operation: conversions, lengths, room, zeros, least and greatest. Conditions: none. -/
namespace Go.Proofs.YtcongfiojbajeaaD
open Go Go.RowKit
set_option linter.unusedVariables false
set_option linter.unusedSimpArgs false
variable {P : Program} {E : Env} {nb base : Nat} {w0 w : World} {ρ : Rho} {s : St} {outs : Outs}

theorem conv_sim (he : EOk P E) {src dst : Nat} {x : DVal} {v : Value} (hv : VRel ρ x v) : Sim P nb base w0 ρ w (convert src dst v) (convX E src dst x) VRel := by
  intro k s outs hok r
  unfold convX at hok
  obtain ⟨sd, hs, hok⟩ := Ok_desc he hok
  obtain ⟨d, hd, hok⟩ := Ok_desc he hok
  cases d with
  | int kd =>
    cases x with
    | int kx n =>
      simp only [VRel] at hv; subst hv
      have hok := Ok_fI (show Ok nb (fI n fun n => k (.int kd (wrD kd n))) s outs from hok)
      rw [wrD_eq] at hok
      exact ⟨ρ, w, _, .int kd (kd.wrap n), s, ρ.le_refl, by simp [convert, run_underlying hs, run_underlying hd, Conv.intToInt], r, by simp only [VRel], hok⟩
    | _ => exact (Ok_fail hok).elim
  | string =>
    cases x with
    | str n x =>
      simp only [VRel] at hv
      obtain ⟨t, rfl, rfl, rfl⟩ := hv
      exact ⟨ρ, w, _, .string t, s, ρ.le_refl, by simp [convert, run_underlying hs, run_underlying hd], r, by simp only [VRel]; exact ⟨t, rfl, rfl, rfl⟩, hok⟩
    | nils =>
      simp only [VRel] at hv; subst hv
      cases sd with
      | slice e =>
        obtain ⟨ed, hed, hok⟩ := Ok_desc he hok
        cases ed with
        | int ke =>
          cases ke with
          | u8 =>
            refine ⟨ρ, w, _, .string ByteArray.empty, s, ρ.le_refl, run_convert_bytes_nil w src e hs hed 0 0 dst hd, r, ?_, hok⟩
            simp only [VRel]; exact ⟨ByteArray.empty, rfl, rfl, rfl⟩
          | _ => exact (Ok_fail hok).elim
        | _ => exact (Ok_fail hok).elim
      | _ => exact (Ok_fail hok).elim
    | slice b o l cp ex =>
      cases sd with
      | slice e =>
        simp only at hok
        obtain ⟨ed, hed, hok⟩ := Ok_desc he hok
        cases ed with
        | int ke =>
          cases ke with
          | u8 =>
            simp only [VRel] at hv
            obtain ⟨c, sh, cp', hρ, rfl, _⟩ := hv
            obtain ⟨ob, s1, hs1, hg, hok⟩ := Ok_get hok
            obtain ⟨oc, hoc, hor⟩ := r.at hρ hg
            cases ob with
            | cells cs e' opn fl fh =>
              obtain ⟨c', fz, rfl, h1, h2, h3, h4, h5⟩ := hor.cells_inv
              simp only at hok
              rw [lsplit_eq] at hok
              by_cases hl1 : o ≤ cs.length
              · rw [if_pos hl1, lsplit_eq] at hok
                by_cases hl2 : l ≤ (cs.drop o).length
                · rw [if_pos hl2] at hok
                  have hl3 : l ≤ cs.length - o := by simpa using hl2
                  obtain ⟨ns, hns, hpos, hok⟩ := snum_ok _ _ _ _ _ (sub_rel h3 (by omega)) hok
                  refine ⟨ρ, w, _, .string (strOfNums ns), s1, ρ.le_refl, ?_, by rw [hs1]; exact r, ?_, hok⟩
                  · rw [run_convert_bytes_string w src dst e _ l cp' hs hed hd]
                    rw [run_bytesToString w ⟨c, sh + o, none⟩ l cp' ns (by rw [run_read hoc (show sh + o + l ≤ c'.size by omega), hns]), foldl_push_bytes]
                    simp [strOfNums]
                  · simp only [VRel]
                    refine ⟨strOfNums ns, rfl, ?_, ?_⟩
                    · rw [strOfNums_data]; have := congrArg List.length hns; simp at this ⊢; omega
                    · rw [strOfNums_data, fold_num _ _ hpos]; rfl
                · rw [if_neg hl2] at hok; exact (Ok_fail hok).elim
              · rw [if_neg hl1] at hok; exact (Ok_fail hok).elim
            | _ => exact (Ok_fail hok).elim
          | _ => exact (Ok_fail hok).elim
        | _ => exact (Ok_fail hok).elim
      | _ => exact (Ok_fail hok).elim
    | _ => exact (Ok_fail hok).elim
  | slice e =>
    cases x with
    | str n x =>
      simp only at hok
      obtain ⟨ed, hed, hok⟩ := Ok_desc he hok
      cases ed with
      | int ke =>
        cases ke with
        | u8 =>
          simp only [VRel] at hv
          obtain ⟨t, rfl, rfl, rfl⟩ := hv
          simp only at hok
          obtain ⟨inf, hinf, hok⟩ := Ok_size he hok
          obtain ⟨hz, hok⟩ := Ok_chk hok
          rw [beq_iff] at hz
          rw [sbytes_eq _ _ _ _ rfl, List.append_nil] at hok
          have hrun := Lib.run_convert_string_bytes w src dst e t hs hd hed
          have hcap : t.size ≤ grownCap w t.size 0 e := cut_cap _ _ _ _
          generalize hgc : grownCap w t.size 0 e = gc at hrun hcap
          have hts : t.data.toList.length = t.size := by simp
          have hbs : (Lib.bytesCells w e t).size = gc := by
            unfold Lib.bytesCells; rw [hgc]
            have : t.data.size = t.size := rfl
            simp [this]; omega
          obtain ⟨ρ', b, s2, hle, hb, hlim, hrel, hok⟩ := new_open hok r hinf (c' := Lib.bytesCells w e t) (fz := ((Lib.bytesCells w e t).size, (Lib.bytesCells w e t).size + 1)) (by rw [hbs]; simpa using hcap) (by
              rw [List.length_map]
              have : (Lib.bytesCells w e t).toList.take t.data.toList.length = t.data.toList.map fun b => Value.int .u8 b.toNat := by
                simp [Lib.bytesCells]
              rw [this]; exact bcells_rel _) (bcells_ones _) (fun i h1 h2 _ => by simp only at h2; omega) (fun h => absurd rfl h) (Lib.bytesWorld_at_new w e t)
            (fun k ok h => by rw [Lib.bytesWorld_at_old w e t k (Array.getElem?_eq_some_iff.1 h).1]; exact h)
            ⟨rfl, rfl, rfl, by rw [Lib.bytesWorld_size]; omega, fun k hk => Lib.bytesWorld_at_old w e t k (by have := r.size; omega)⟩
          refine ⟨ρ', _, _, _, s2, hle, hrun, hrel, ?_, hok⟩
          rw [hz] at hlim
          rw [hts]
          exact slice_open hb hlim hcap (by omega)
        | _ => exact (Ok_fail hok).elim
      | _ => exact (Ok_fail hok).elim
    | _ => exact (Ok_fail hok).elim
  | _ => exact (Ok_fail hok).elim
end Go.Proofs.YtcongfiojbajeaaD

/- Operation by operation: lengths, room, clearing, least and greatest. Conditions: none. -/
namespace Go.Proofs.YtcongfiojbajeaaD
open Go Go.RowKit
set_option linter.unusedVariables false
set_option linter.unusedSimpArgs false
variable {P : Program} {E : Env} {nb base : Nat} {w0 w : World} {ρ : Rho} {s : St} {outs : Outs}

theorem run_getObj {w : World} {r : Nat} {o : Obj} (h : w.heap[r]? = some o) (hn : ∀ a e f, o ≠ .cells a e f := by intro _ _ _ h; cases h) : (getObj r).run P w = .ok o w := by
  cases o <;> first | exact absurd rfl (hn _ _ _) | simp [getObj, Sem.run, h]
theorem run_setObj_any {w : World} {r : Nat} {o : Obj} (h : w.heap[r]? = some o) (o' : Obj) (hn : ∀ a e f, o ≠ .cells a e f := by intro _ _ _ h; cases h) : (setObj r o').run P w = .ok () (w.putObj r o') := by
  cases o <;> first | exact absurd rfl (hn _ _ _) | simp [setObj, Sem.run, h, World.putObj]
theorem mlen_eq (es : List (DVal × DVal × Nat)) : mlen es = es.length := by
  induction es with
  | nil => rfl
  | cons e es ih => show Nat.succ (mlen es) = _; rw [ih]; rfl
theorem EsRel.len {es : List (DVal × DVal × Nat)} : ∀ {ms : List MapEntry}, EsRel ρ es ms → es.length = ms.length := by
  induction es with
  | nil => intro ms h; obtain rfl := h; rfl
  | cons e es ih => intro ms h; obtain ⟨m, ms', rfl, _, _, _, h⟩ := h; simp [ih h]
theorem len_sim (he : EOk P E) {t ty : Nat} {ts : Array TypeId} {vs : Array Value} {x : DVal} {v : Value} (h0 : ts[0]? = some t) (h1 : vs[0]? = some v) (hx : VRel ρ x v) :
    Sim P nb base w0 ρ w (Builtin.len_ ts ty vs) (lenX E t x) VRel := by
  intro k s outs hok r
  unfold lenX at hok
  obtain ⟨d, hd, hok⟩ := Ok_desc he hok
  have fin : ∀ n : Nat, (Builtin.len_ ts ty vs).run P w = .ok (goInt n) w → ∀ s1 : St, s1.h = s.h → Ok nb (k (.int .i64 (Int.ofNat n))) s1 outs →
      ∃ (ρ' : Rho) (w' : World) (x : DVal) (y : Value) (s' : St), ρ.le ρ' ∧ (Builtin.len_ ts ty vs).run P w = .ok y w' ∧ Rel P nb base w0 ρ' s'.h w' ∧ VRel ρ' x y ∧ Ok nb (k x) s' outs :=
    fun n h s1 hs h2 => ⟨ρ, w, _, _, s1, ρ.le_refl, h, by rw [hs]; exact r, by simp only [VRel]; rfl, h2⟩
  cases d with
  | string =>
    cases x with
    | str n x =>
      simp only [VRel] at hx
      obtain ⟨b, rfl, rfl, rfl⟩ := hx
      exact fin b.data.toList.length (by simp [Builtin.len_, h0, h1, run_underlying hd, goInt]) s rfl hok
    | _ => exact (Ok_fail hok).elim
  | slice e =>
    cases x with
    | nils => simp only [VRel] at hx; subst hx; exact fin 0 (by simp [Builtin.len_, h0, h1, run_underlying hd, goInt]) s rfl hok
    | slice b o l cp ex =>
      simp only [VRel] at hx
      obtain ⟨c, sh, cp', hρ, rfl, _⟩ := hx
      exact fin l (by simp [Builtin.len_, h0, h1, run_underlying hd, goInt]) s rfl hok
    | _ => exact (Ok_fail hok).elim
  | map kt e =>
    cases x with
    | nilm => simp only [VRel] at hx; subst hx; exact fin 0 (by simp [Builtin.len_, h0, h1, run_underlying hd, goInt]) s rfl hok
    | map b =>
      simp only [VRel] at hx
      obtain ⟨c, hρ, rfl⟩ := hx
      obtain ⟨ob, s1, hs1, hg, hok⟩ := Ok_get hok
      obtain ⟨oc, hoc, hor⟩ := r.at hρ hg
      cases ob with
      | map es cl =>
        obtain ⟨_, ms, rfl, hes⟩ := hor
        have hok := Ok_fN (show Ok nb (fN (mlen es) fun n => k (.int .i64 (Int.ofNat n))) s1 outs from hok)
        rw [mlen_eq, hes.len] at hok
        exact fin ms.toList.length (by simp [Builtin.len_, h0, h1, run_underlying hd, goInt, run_getObj hoc]) s1 hs1 hok
      | _ => exact (Ok_fail hok).elim
    | _ => exact (Ok_fail hok).elim
  | array n e => exact fin n (by simp [Builtin.len_, h0, h1, run_underlying hd, goInt]) s rfl hok
  | pointer a =>
    simp only at hok
    obtain ⟨d, hd2, hok⟩ := Ok_desc he hok
    cases d with
    | array n e => exact fin n (by simp [Builtin.len_, h0, h1, run_underlying hd, run_underlying hd2, goInt]) s rfl hok
    | _ => exact (Ok_fail hok).elim
  | _ => exact (Ok_fail hok).elim
theorem cap_sim (he : EOk P E) {t ty : Nat} {ts : Array TypeId} {vs : Array Value} {x : DVal} {v : Value} (h0 : ts[0]? = some t) (h1 : vs[0]? = some v) (hx : VRel ρ x v) :
    Sim P nb base w0 ρ w (Builtin.cap_ ts ty vs) (capX E t x) VRel := by
  intro k s outs hok r
  unfold capX at hok
  obtain ⟨d, hd, hok⟩ := Ok_desc he hok
  cases d with
  | slice e =>
    cases x with
    | nils =>
      simp only [VRel] at hx; subst hx
      exact ⟨ρ, w, _, .int .i64 0, s, ρ.le_refl, by simp [Builtin.cap_, h0, h1, run_underlying hd, goInt], r, by simp only [VRel], hok⟩
    | slice b o l cp ex =>
      simp only [VRel] at hx
      obtain ⟨c, sh, cp', hρ, rfl, _, h2, _⟩ := hx
      obtain ⟨hc, hok⟩ := Ok_chk hok
      rw [beq_iff] at hc
      exact ⟨ρ, w, _, .int .i64 (cp' : Int), s, ρ.le_refl, by simp [Builtin.cap_, h0, h1, run_underlying hd, goInt], r, by simp only [VRel]; rw [h2 hc]; rfl, hok⟩
    | _ => exact (Ok_fail hok).elim
  | _ => exact (Ok_fail hok).elim
theorem Ok_lrep {xs : List DVal} {n : Nat} {c : List DVal → HM} (h : Ok nb (lrep xs n c) s outs) : Ok nb (c (List.replicate n xs).flatten) s outs := by
  rw [lrep_eq] at h; exact h
theorem clear_sim (he : EOk P E) {t ty : Nat} {ts : Array TypeId} {vs : Array Value} {x : DVal} {v : Value} (h0 : ts[0]? = some t) (h1 : vs[0]? = some v) (hx : VRel ρ x v) :
    Sim P nb base w0 ρ w (Builtin.clear_ ts ty vs) (clearX E t x) VRel := by
  intro k s outs hok r
  unfold clearX at hok
  obtain ⟨d, hd, hok⟩ := Ok_desc he hok
  have fin : ∀ w' (s1 : St), (Builtin.clear_ ts ty vs).run P w = .ok (.tuple #[]) w' → Rel P nb base w0 ρ s1.h w' → Ok nb (k dU) s1 outs →
      ∃ (ρ' : Rho) (w' : World) (x : DVal) (y : Value) (s' : St), ρ.le ρ' ∧ (Builtin.clear_ ts ty vs).run P w = .ok y w' ∧ Rel P nb base w0 ρ' s'.h w' ∧ VRel ρ' x y ∧ Ok nb (k x) s' outs :=
    fun w' s1 h h2 h3 => ⟨ρ, w', _, _, s1, ρ.le_refl, h, h2, by simp only [dU, VRel]; exact ⟨#[], rfl, VsRel.nil⟩, h3⟩
  cases x with
  | nilm => simp only [VRel] at hx; subst hx; exact fin w s (by simp [Builtin.clear_, h0, h1, run_underlying hd]) r hok
  | nils => simp only [VRel] at hx; subst hx; exact fin w s (by cases d <;> simp [Builtin.clear_, h0, h1, run_underlying hd]) r hok
  | map b =>
    simp only [VRel] at hx
    obtain ⟨c, hρ, rfl⟩ := hx
    obtain ⟨ob, s1, hs1, hg, hok⟩ := Ok_get hok
    obtain ⟨oc, hoc, hor⟩ := r.at hρ hg
    cases ob with
    | map es cl =>
      obtain ⟨_, ms, rfl, hes⟩ := hor
      obtain ⟨hb, s2, hs2, hok⟩ := Ok_set hok
      refine fin (w.putObj c (.map #[] cl)) s2 (by cases d <;> simp [Builtin.clear_, h0, h1, run_underlying hd, run_getObj hoc, run_setObj_any hoc]) ?_ hok
      rw [hs2, hs1]
      exact r.upd hb hg (by simp) hρ (Upd.putObj _ hoc (fun _ _ _ h => by cases h)) ⟨rfl, #[], rfl, rfl⟩
    | _ => exact (Ok_fail hok).elim
  | slice b o l cp ex =>
    simp only [VRel] at hx
    obtain ⟨c, sh, cp', hρ, rfl, _⟩ := hx
    cases l with
    | zero => exact fin w s (by cases d <;> simp [Builtin.clear_, h0, h1, run_underlying hd]) r hok
    | succ l =>
      cases d with
      | slice e =>
        have hok2 : Ok nb (YtcongfiojbajeaaD.zero E e fun z => lrep z (l + 1) fun cs => storeC b o cs (k dU)) s outs := hok
        clear hok
        obtain ⟨z, zs, hz, g1, g2, hok⟩ := Ok_zero (ρ := ρ) he hok2
        have hok := Ok_lrep hok
        have hzc : VsRel ρ (List.replicate (l + 1) zs).flatten (Builtin.zeroCells z.cells (l + 1)).toList := by
          have : (Builtin.zeroCells z.cells (l + 1)).toList = (List.replicate (l + 1) z.cells.toList).flatten := by
            unfold Builtin.zeroCells; rw [← rep_cells]
          rw [this]; exact g1.rep _
        obtain ⟨w', s2, hst, hrel, hok⟩ := storeC_sim (P := P) hρ hzc (ones_rep _ g2) hok r
        exact fin w' s2 (by simp [Builtin.clear_, h0, h1, run_underlying hd, hz, hst]) hrel hok
      | _ => exact (Ok_fail hok).elim
  | _ => exact (Ok_fail hok).elim
theorem ilt_dec (a b : Int) : (ilt a b = true) = (a < b) := by rw [ilt_eq]; simp
theorem mmX_ok (mx : Bool) : ∀ (l : List DVal) (x : DVal) (v : Value) (vs : List Value) (k : K), VRel ρ x v → VsRel ρ l vs → Ok nb (mmX mx x l k) s outs →
    ∃ d u, VRel ρ d u ∧ Ok nb (k d) s outs ∧ ∀ w, (vs.foldlM (if mx then Builtin.max2 else Builtin.min2) v).run P w = .ok u w := by
  intro l
  induction l with
  | nil => intro x v vs k h1 h2 hok; rw [h2.nil_inv]; exact ⟨x, v, h1, hok, fun w => rfl⟩
  | cons y l ih =>
    intro x v vs k h1 h2 hok
    obtain ⟨u, us, rfl, g1, g2⟩ := h2.cons_inv
    cases x with
    | int kd a =>
      cases y with
      | int kd2 b =>
        simp only [VRel] at h1 g1
        subst h1 g1
        cases mx with
        | true =>
          rcases Ok_brec (show Ok nb (Bool.rec (mmX true (.int kd a) l k) (mmX true (.int kd b) l k) (ilt a b)) s outs from hok) with ⟨hc, hok2⟩ | ⟨hc, hok2⟩
          · rw [ilt_dec] at hc
            obtain ⟨d, q, q1, q2, q3⟩ := ih (.int kd b) (.int kd b) us k (by simp only [VRel]) g2 hok2
            exact ⟨d, q, q1, q2, fun w => by simpa [Builtin.max2, hc] using q3 w⟩
          · have hc' : ¬ a < b := by rw [← ilt_dec, hc]; simp
            obtain ⟨d, q, q1, q2, q3⟩ := ih (.int kd a) (.int kd a) us k (by simp only [VRel]) g2 hok2
            exact ⟨d, q, q1, q2, fun w => by simpa [Builtin.max2, hc'] using q3 w⟩
        | false =>
          rcases Ok_brec (show Ok nb (Bool.rec (mmX false (.int kd a) l k) (mmX false (.int kd b) l k) (ilt b a)) s outs from hok) with ⟨hc, hok2⟩ | ⟨hc, hok2⟩
          · rw [ilt_dec] at hc
            obtain ⟨d, q, q1, q2, q3⟩ := ih (.int kd b) (.int kd b) us k (by simp only [VRel]) g2 hok2
            exact ⟨d, q, q1, q2, fun w => by simpa [Builtin.min2, hc] using q3 w⟩
          · have hc' : ¬ b < a := by rw [← ilt_dec, hc]; simp
            obtain ⟨d, q, q1, q2, q3⟩ := ih (.int kd a) (.int kd a) us k (by simp only [VRel]) g2 hok2
            exact ⟨d, q, q1, q2, fun w => by simpa [Builtin.min2, hc'] using q3 w⟩
      | _ => exact (Ok_fail hok).elim
    | _ => exact (Ok_fail hok).elim
end Go.Proofs.YtcongfiojbajeaaD

/- Operation by operation: maps. Conditions: none. -/
namespace Go.Proofs.YtcongfiojbajeaaD
open Go Go.RowKit
set_option linter.unusedVariables false
set_option linter.unusedSimpArgs false
variable {P : Program} {E : Env} {nb base : Nat} {w0 w : World} {ρ : Rho} {s : St} {outs : Outs}

/-- A value that may be a key. -/
def KeyV (d : TypeDesc) (v : Value) : Prop := (d = .bool ∧ ∃ b, v = .bool b) ∨ (∃ q k n, d = .int q ∧ v = .int k n) ∨ (d = .string ∧ ∃ t, v = .string t)
theorem keyX_ok (he : EOk P E) {kt : Nat} {x : DVal} {v : Value} {c : HM} (hx : VRel ρ x v) (hok : Ok nb (keyX E kt x c) s outs) :
    ∃ d, P.underlying kt = some d ∧ KeyV d v ∧ (∀ e w, (Instr.checkKey e 10000 kt v).run P w = .ok () w) ∧ Ok nb c s outs := by
  unfold keyX at hok
  obtain ⟨d, hd, hok⟩ := Ok_desc he hok
  have key : KeyV d v → ∀ e n w, (Instr.checkKey e (n + 1) kt v).run P w = .ok () w := by
    intro h e n w
    unfold Instr.checkKey
    rcases h with ⟨rfl, b, rfl⟩ | ⟨q, k, m, rfl, rfl⟩ | ⟨rfl, t, rfl⟩ <;> simp [run_underlying hd]
  cases d with
  | bool =>
    cases x with
    | bool b => simp only [VRel] at hx; exact ⟨_, hd, .inl ⟨rfl, b, hx⟩, fun e w => key (.inl ⟨rfl, b, hx⟩) e 9999 w, hok⟩
    | _ => exact (Ok_fail hok).elim
  | int q =>
    cases x with
    | int k n => simp only [VRel] at hx; exact ⟨_, hd, .inr (.inl ⟨q, k, n, rfl, hx⟩), fun e w => key (.inr (.inl ⟨q, k, n, rfl, hx⟩)) e 9999 w, hok⟩
    | _ => exact (Ok_fail hok).elim
  | string =>
    cases x with
    | str n m => simp only [VRel] at hx; obtain ⟨t, hx, _⟩ := hx; exact ⟨_, hd, .inr (.inr ⟨rfl, t, hx⟩), fun e w => key (.inr (.inr ⟨rfl, t, hx⟩)) e 9999 w, hok⟩
    | _ => exact (Ok_fail hok).elim
  | _ => exact (Ok_fail hok).elim
def PlainD (d : TypeDesc) : Prop := d = .bool ∨ (∃ q, d = .int q) ∨ d = .string
theorem keyFs_ok (he : EOk P E) {cs : List DVal} {a : Array Value} {c : HM} (h : VsRel ρ cs a.toList) (h1 : ones cs = true) : ∀ fs : List Field, Ok nb (keyFs E cs c fs) s outs →
    (∀ f ∈ fs, ∃ v d, (∀ w, (part f.type a f.offset).run P w = .ok v w) ∧ P.underlying f.type = some d ∧ PlainD d) ∧ Ok nb c s outs := by
  intro fs
  induction fs with
  | nil => intro hok; exact ⟨fun f hf => by simp at hf, hok⟩
  | cons f fs ih =>
    intro hok
    obtain ⟨nm, t, off, x1, x2, x3, x4⟩ := f
    have hok : Ok nb (partX E t cs off fun _ => desc E t fun d => match d with
      | .bool => keyFs E cs c fs
      | .int _ => keyFs E cs c fs
      | .string => keyFs E cs c fs
      | _ => .fail) s outs := hok
    obtain ⟨d0, v, hp, _, hok⟩ := part_sim he h h1 hok
    obtain ⟨d, hd, hok⟩ := Ok_desc he hok
    have fin : PlainD d → Ok nb (keyFs E cs c fs) s outs → (∀ f ∈ (⟨nm, t, off, x1, x2, x3, x4⟩ : Field) :: fs, ∃ v d, (∀ w, (part f.type a f.offset).run P w = .ok v w) ∧ P.underlying f.type = some d ∧ PlainD d) ∧ Ok nb c s outs := by
      intro hpl hok
      obtain ⟨q1, q2⟩ := ih hok
      refine ⟨fun f hf => ?_, q2⟩
      rcases List.mem_cons.1 hf with rfl | hf
      · exact ⟨v, d, hp, hd, hpl⟩
      · exact q1 f hf
    cases d with
    | bool => exact fin (.inl rfl) hok
    | int q => exact fin (.inr (.inl ⟨q, rfl⟩)) hok
    | string => exact fin (.inr (.inr rfl)) hok
    | _ => exact (Ok_fail hok).elim
theorem run_check_struct {kt : TypeId} {fs : Array Field} {a : Array Value} (hd : P.underlying kt = some (.struct fs)) (h : ∀ f ∈ fs.toList, ∃ v d, (∀ w, (part f.type a f.offset).run P w = .ok v w) ∧ P.underlying f.type = some d ∧ PlainD d) (em : Bool) (n : Nat) (w : World) :
    (Instr.checkKey em (n + 2) kt (.agg a)).run P w = .ok () w := by
  rw [Instr.checkKey]
  simp only [Sem.run_bind, run_underlying hd, Result.andThen_ok]
  rw [← Array.forIn_toList]
  generalize fs.toList = l at h
  induction l with
  | nil => simp
  | cons f l ih =>
    obtain ⟨v, d, h1, h2, h3⟩ := h f (by simp)
    have hc : (Instr.checkKey em (n + 1) f.type v).run P w = .ok () w := by
      rw [Instr.checkKey]
      rcases h3 with rfl | ⟨q, rfl⟩ | rfl <;> simp [run_underlying h2]
    have ih := ih fun f hf => h f (List.mem_cons_of_mem _ hf)
    by_cases hf : f.name = "_"
    · simp only [List.forIn_cons, Sem.run_bind, hf, ne_eq, not_true_eq_false, if_false, Sem.run_pure, Result.andThen_ok]
      exact ih
    · simp only [List.forIn_cons, Sem.run_bind, hf, ne_eq, not_false_eq_true, if_true, Sem.run_pure, Result.andThen_ok, h1, hc]
      exact ih
theorem keyY_ok (he : EOk P E) {kt : Nat} {x : DVal} {v : Value} {c : HM} (hx : VRel ρ x v) (hok : Ok nb (keyY E kt x c) s outs) :
    ∃ d, P.underlying kt = some d ∧ (KeyV d v ∨ ∃ vs, x = .agg vs) ∧ (∀ e w, (Instr.checkKey e 10000 kt v).run P w = .ok () w) ∧ Ok nb c s outs := by
  unfold keyY at hok
  obtain ⟨d, hd, hok⟩ := Ok_desc he hok
  have old : Ok nb (keyX E kt x c) s outs → ∃ d, P.underlying kt = some d ∧ (KeyV d v ∨ ∃ vs, x = .agg vs) ∧ (∀ e w, (Instr.checkKey e 10000 kt v).run P w = .ok () w) ∧ Ok nb c s outs := fun hok =>
    let ⟨d, h1, h2, h3, h4⟩ := keyX_ok he hx hok
    ⟨d, h1, .inl h2, h3, h4⟩
  cases d with
  | struct fs =>
    cases x with
    | agg cs =>
      simp only [VRel] at hx
      obtain ⟨a, rfl, q1, q2⟩ := hx
      obtain ⟨hf, hok⟩ := keyFs_ok he q1 q2 fs.toList hok
      exact ⟨_, hd, .inr ⟨cs, rfl⟩, fun e w => run_check_struct hd hf e 9998 w, hok⟩
    | _ => exact (Ok_fail hok).elim
  | _ => exact old hok
theorem num_inj_bytes {a b : ByteArray} (h1 : a.data.toList.length = b.data.toList.length) (h2 : num a.data.toList = num b.data.toList) : a = b := by
  have := num_inj _ _ h1 h2
  have h3 : a.data = b.data := Array.ext' this
  cases a; cases b; simp at h3; rw [h3]
theorem eq1_now {d : TypeDesc} {x y : DVal} {u v : Value} {b : Bool} (hk : KeyV d u) (hx : VRel ρ x u) (hy : VRel ρ y v) (h : eq1 x y = some b) : Instr.sameNow d u v = some b ∧ (b = true → v = u) := by
  cases x with
  | bool p =>
    cases y with
    | bool q =>
      simp only [VRel] at hx hy
      subst hx hy
      rcases hk with ⟨rfl, _⟩ | ⟨_, _, _, rfl, h⟩ | ⟨rfl, _, h⟩
      · cases p <;> cases q <;> simp [eq1, Instr.sameNow] at h ⊢ <;> simp [h]
        all_goals (subst h; simp)
      · cases h
      · cases h
    | _ => cases h
  | int k p =>
    cases y with
    | int l q =>
      simp only [VRel] at hx hy
      subst hx hy
      have h0 : (Bool.rec none (some (ieq p q)) (keq k l) : Option Bool) = some b := h
      clear h
      by_cases hkl : keq k l = true
      · rw [hkl] at h0
        have h1 : some (ieq p q) = some b := h0
        clear h0
        rw [keqD] at hkl
        subst hkl
        obtain rfl := Option.some.inj h1
        rcases hk with ⟨_, _, h⟩ | ⟨_, _, _, rfl, h⟩ | ⟨_, _, h⟩
        · cases h
        · refine ⟨?_, fun hb => by rw [ieqD] at hb; rw [hb]⟩
          simp only [Instr.sameNow, if_true]
          congr 1
          have := ieqD p q
          by_cases hpq : p = q
          · rw [this.mpr hpq]; simp [hpq]
          · have : ieq p q = false := by
              cases hi : ieq p q with
              | false => rfl
              | true => rw [ieqD] at hi; exact absurd hi hpq
            rw [this]; simp [hpq]
        · cases h
      · have : keq k l = false := by cases hh : keq k l <;> simp_all
        rw [this] at h0; cases h0
    | _ => cases h
  | str n p =>
    cases y with
    | str m q =>
      simp only [VRel] at hx hy
      obtain ⟨t, rfl, rfl, rfl⟩ := hx
      obtain ⟨t', rfl, rfl, rfl⟩ := hy
      have h : some (seq t.data.toList.length (num t.data.toList) t'.data.toList.length (num t'.data.toList)) = some b := h
      obtain rfl := Option.some.inj h
      rcases hk with ⟨_, _, h⟩ | ⟨_, _, _, _, h⟩ | ⟨rfl, _⟩
      · cases h
      · cases h
      · have hiff : seq t.data.toList.length (num t.data.toList) t'.data.toList.length (num t'.data.toList) = true ↔ t = t' := by
          unfold seq
          rw [bandD, beq_iff, beq_iff]
          exact ⟨fun h => num_inj_bytes h.1 h.2, fun h => by subst h; exact ⟨rfl, rfl⟩⟩
        refine ⟨?_, fun hb => by rw [hiff.1 hb]⟩
        simp only [Instr.sameNow]
        congr 1
        by_cases ht : t = t'
        · rw [hiff.2 ht, ht]; exact (Go.MapKept.bytes_beq _ _).2 rfl
        · have : seq t.data.toList.length (num t.data.toList) t'.data.toList.length (num t'.data.toList) = false := by
            cases hh : seq t.data.toList.length (num t.data.toList) t'.data.toList.length (num t'.data.toList) with
            | false => rfl
            | true => exact absurd (hiff.1 hh) ht
          rw [this]
          cases hb : (t == t') with
          | false => rfl
          | true => exact absurd ((Go.MapKept.bytes_beq _ _).1 hb) ht
    | _ => cases h
  | _ => cases h
theorem Ok_oc {o : Option Bool} {c : Bool → HM} (h : Ok nb (ocB o c) s outs) : ∃ b, o = some b ∧ Ok nb (c b) s outs := by
  cases o with
  | none => exact (Ok_fail h).elim
  | some b => exact ⟨b, rfl, h⟩
theorem eq1_agg (vs : List DVal) (y : DVal) : eq1 (.agg vs) y = none := by cases y <;> rfl
/-- The search: what it finds, and where. -/
theorem mfind_ok {d : TypeDesc} {k : DVal} {u : Value} (hk : KeyV d u ∨ ∃ vs, k = .agg vs) (hx : VRel ρ k u) : ∀ (es : List (DVal × DVal × Nat)) (ms : List MapEntry) (i : Nat) (c : Option (Nat × DVal × Nat) → HM), EsRel ρ es ms → Ok nb (mfind k es i c) s outs →
    (Instr.findNow d u ms i = some none ∧ Ok nb (c none) s outs) ∨
    (∃ (n : Nat) (k' v : DVal) (b : Nat) (m : MapEntry), es[n]? = some (k', v, b) ∧ ms[n]? = some m ∧ m.key = u ∧ VRel ρ k' m.key ∧ VRel ρ v m.val ∧ m.born = b ∧ Instr.findNow d u ms i = some (some (i + n, m.val)) ∧ Ok nb (c (some (i + n, v, b))) s outs) := by
  intro es
  induction es with
  | nil => intro ms i c h hok; obtain rfl := h; exact .inl ⟨rfl, hok⟩
  | cons e es ih =>
    intro ms i c h hok
    obtain ⟨m, ms', rfl, h1, h2, h3, h4⟩ := h
    obtain ⟨k', v, b⟩ := e
    have hok : Ok nb (ocB (eq1 k k') fun r => Bool.rec (mfind k es (Nat.succ i) c) (c (some (i, v, b))) r) s outs := hok
    obtain ⟨r, hr, hok⟩ := Ok_oc hok
    obtain ⟨hn, hsame⟩ := eq1_now (hk.resolve_right fun ⟨vs, e⟩ => by rw [e, eq1_agg] at hr; cases hr) hx h1 hr
    cases r with
    | true => exact .inr ⟨0, k', v, b, m, rfl, rfl, hsame rfl, h1, h2, h3, by simp [Instr.findNow, hn], hok⟩
    | false =>
      rcases ih ms' (i + 1) c h4 hok with ⟨q1, q2⟩ | ⟨n, k2, v2, b2, m2, q1, q2, q3, q4, q5, q6, q7, q8⟩
      · exact .inl ⟨by simp [Instr.findNow, hn, q1], q2⟩
      · have e : i + 1 + n = i + (n + 1) := by omega
        exact .inr ⟨n + 1, k2, v2, b2, m2, by simpa using q1, by simpa using q2, q3, q4, q5, q6, by simp [Instr.findNow, hn, q7, e], by rw [← e]; exact q8⟩
theorem EsRel.cons_mk {e : DVal × DVal × Nat} {es : List (DVal × DVal × Nat)} {m : MapEntry} {ms : List MapEntry} (h1 : VRel ρ e.1 m.key) (h2 : VRel ρ e.2.1 m.val) (h3 : m.born = e.2.2) (h : EsRel ρ es ms) : EsRel ρ (e :: es) (m :: ms) := ⟨m, ms, rfl, h1, h2, h3, h⟩
theorem EsRel.app {a b : List (DVal × DVal × Nat)} : ∀ {x y : List MapEntry}, EsRel ρ a x → EsRel ρ b y → EsRel ρ (a ++ b) (x ++ y) := by
  induction a with
  | nil => intro x y h h'; obtain rfl := h; exact h'
  | cons e a ih => intro x y h h'; obtain ⟨m, ms, rfl, h1, h2, h3, h4⟩ := h; exact ⟨m, ms ++ y, rfl, h1, h2, h3, ih h4 h'⟩
theorem mset_ok {v : DVal} {f : MapEntry → MapEntry} : ∀ (es : List (DVal × DVal × Nat)) (n : Nat) (ms : List MapEntry) (m : MapEntry) (c : List (DVal × DVal × Nat) → HM), EsRel ρ es ms → ms[n]? = some m →
    (∀ k, VRel ρ k m.key → VRel ρ k (f m).key) → VRel ρ v (f m).val → (f m).born = m.born → Ok nb (mset v es n c) s outs → ∃ es', EsRel ρ es' (ms.modify n f) ∧ Ok nb (c es') s outs := by
  intro es
  induction es with
  | nil => intro n ms m c h; intro _ _ _ _ hok; exact (Ok_fail hok).elim
  | cons e es ih =>
    intro n ms m c h hm hf1 hf2 hf3 hok
    obtain ⟨m0, ms', rfl, h1, h2, h3, h4⟩ := h
    obtain ⟨k', v', b⟩ := e
    cases n with
    | zero =>
      obtain rfl : m0 = m := by simpa using hm
      exact ⟨_, EsRel.cons_mk (e := (k', v, b)) (hf1 _ h1) hf2 (by rw [hf3]; exact h3) h4, hok⟩
    | succ n =>
      obtain ⟨es', q1, q2⟩ := ih n ms' m (fun r => c ((k', v', b) :: r)) h4 (by simpa using hm) hf1 hf2 hf3 hok
      exact ⟨_, EsRel.cons_mk (e := (k', v', b)) h1 h2 h3 q1, q2⟩
theorem EsRel.modify {f : MapEntry → MapEntry} : ∀ (es : List (DVal × DVal × Nat)) (n : Nat) (ms : List MapEntry) (m : MapEntry), EsRel ρ es ms → ms[n]? = some m → f m = m → EsRel ρ es (ms.modify n f) := by
  intro es n ms m h hm hf
  have : ms.modify n f = ms := by
    apply List.ext_getElem?
    intro i
    rw [List.getElem?_modify]
    by_cases e : n = i
    · subst e; rw [hm]; simp [hf]
    · simp [e]
  rw [this]; exact h
theorem mdel_ok : ∀ (es : List (DVal × DVal × Nat)) (n : Nat) (ms : List MapEntry) (c : List (DVal × DVal × Nat) → HM), EsRel ρ es ms → Ok nb (mdel es n c) s outs → ∃ es', EsRel ρ es' (ms.eraseIdx n) ∧ Ok nb (c es') s outs := by
  intro es
  induction es with
  | nil => intro n ms c h hok; exact (Ok_fail hok).elim
  | cons e es ih =>
    intro n ms c h hok
    obtain ⟨m0, ms', rfl, h1, h2, h3, h4⟩ := h
    cases n with
    | zero => exact ⟨es, by simpa using h4, hok⟩
    | succ n =>
      obtain ⟨es', q1, q2⟩ := ih n ms' (fun r => c (e :: r)) h4 hok
      exact ⟨_, EsRel.cons_mk h1 h2 h3 q1, q2⟩
theorem run_find {kt : TypeId} {d : TypeDesc} {u : Value} {l : List MapEntry} {a : Option (Nat × Value)} (hd : P.underlying kt = some d) (h : Instr.findNow d u l 0 = some a) (w : World) : (Instr.findKey kt u l).run P w = .ok a w := by
  simp [Instr.findKey, run_underlying hd, h]
theorem run_stays {d : TypeDesc} {u : Value} (h : KeyV d u) (w : World) : (Instr.keyThatStays u u).run P w = .ok u w := by
  have : ∀ n, Instr.sameBits n u u = true := by
    intro n
    rcases h with ⟨_, b, rfl⟩ | ⟨_, k, m, _, rfl⟩ | ⟨_, t, rfl⟩ <;> cases n <;> simp [Instr.sameBits, Go.MapKept.bytes_beq]
  simp [Instr.keyThatStays, this]
theorem lookup_sim (he : EOk P E) {t : Nat} {x ix : DVal} {u v : Value} {ok : Bool} (hx : VRel ρ x u) (hi : VRel ρ ix v) : Sim P nb base w0 ρ w (Instr.lookup t u v ok) (lookupX E t x ix ok) VRel := by
  intro k s outs hok r
  unfold lookupX at hok
  obtain ⟨d, hd, hok⟩ := Ok_desc he hok
  have fin : ∀ (z : DVal) (zv : Value) (b : Bool) (s1 : St), s1.h = s.h → VRel ρ z zv → (Instr.lookup t u v ok).run P w = .ok (if ok then .tuple #[zv, .bool b] else zv) w →
      Ok nb (Bool.rec (k z) (k (.tuple [z, .bool b])) ok) s1 outs → ∃ (ρ' : Rho) (w' : World) (x : DVal) (y : Value) (s' : St), ρ.le ρ' ∧ (Instr.lookup t u v ok).run P w = .ok y w' ∧ Rel P nb base w0 ρ' s'.h w' ∧ VRel ρ' x y ∧ Ok nb (k x) s' outs := by
    intro z zv b s1 hs1 hz hrun hok
    cases ok with
    | false => exact ⟨ρ, w, z, zv, s1, ρ.le_refl, by simpa using hrun, by rw [hs1]; exact r, hz, hok⟩
    | true => exact ⟨ρ, w, _, .tuple #[zv, .bool b], s1, ρ.le_refl, by simpa using hrun, by rw [hs1]; exact r, by simp only [VRel]; exact ⟨_, rfl, VsRel.cons hz (VsRel.cons (by simp only [VRel]) VsRel.nil)⟩, hok⟩
  cases d with
  | map kt el =>
    cases x with
    | nilm =>
      simp only [VRel] at hx; subst hx
      obtain ⟨d, hd2, hk, hc, hok⟩ := keyY_ok he hi hok
      obtain ⟨zv, z, hz, hzr, hok⟩ := Ok_zeroV he hok
      refine fin z zv false s rfl (hzr ρ) ?_ hok
      have hf : Instr.findNow d v [] 0 = some none := rfl
      simp [Instr.lookup, run_underlying hd, hc, run_find hd2 hf, hz]
    | map b =>
      simp only [VRel] at hx
      obtain ⟨c, hρ, rfl⟩ := hx
      obtain ⟨d, hd2, hk, hc, hok⟩ := keyY_ok he hi hok
      obtain ⟨ob, s1, hs1, hg, hok⟩ := Ok_get hok
      obtain ⟨oc, hoc, hor⟩ := r.at hρ hg
      cases ob with
      | map es cl =>
        obtain ⟨_, ms, rfl, hes⟩ := hor
        rcases mfind_ok hk hi es ms.toList 0 _ hes hok with ⟨hf, hok⟩ | ⟨n, k', v', b, m, q1, q2, q3, q4, q5, q6, hf, hok⟩
        · obtain ⟨zv, z, hz, hzr, hok⟩ := Ok_zeroV he hok
          refine fin z zv false s1 hs1 (hzr ρ) ?_ hok
          simp [Instr.lookup, run_underlying hd, hc, run_find hd2 hf, hz, run_getObj hoc]
        · refine fin v' m.val true s1 hs1 q5 ?_ hok
          simp [Instr.lookup, run_underlying hd, hc, run_find hd2 hf, run_getObj hoc]
      | _ => exact (Ok_fail hok).elim
    | _ => exact (Ok_fail hok).elim
  | _ => exact (Ok_fail hok).elim
theorem getD_key {ms : Array MapEntry} {n : Nat} {m : MapEntry} {u : Value} (h : ms.toList[n]? = some m) : ((ms[n]?).map (·.key)).getD u = m.key := by
  rw [← Array.getElem?_toList, h]; rfl
theorem mapUpdate_sim (he : EOk P E) {t : Nat} {x ix y : DVal} {u v q : Value} {k : K} (hx : VRel ρ x u) (hi : VRel ρ ix v) (hy : VRel ρ y q) (hok : Ok nb (mapUpdateX E t x ix y k) s outs) (r : Rel P nb base w0 ρ s.h w) :
    ∃ w' s', (Instr.mapUpdate t u v q).run P w = .ok () w' ∧ Rel P nb base w0 ρ s'.h w' ∧ Ok nb (k dU) s' outs := by
  unfold mapUpdateX at hok
  obtain ⟨d, hd, hok⟩ := Ok_desc he hok
  cases d with
  | map kt el =>
    cases x with
    | map b =>
      simp only [VRel] at hx
      obtain ⟨c, hρ, rfl⟩ := hx
      obtain ⟨d, hd2, hk, hc, hok⟩ := keyX_ok he hi hok
      obtain ⟨ob, s1, hs1, hg, hok⟩ := Ok_get hok
      obtain ⟨oc, hoc, hor⟩ := r.at hρ hg
      cases ob with
      | map es cl =>
        obtain ⟨_, ms, rfl, hes⟩ := hor
        rcases mfind_ok (.inl hk) hi es ms.toList 0 _ hes hok with ⟨hf, hok⟩ | ⟨n, k', v', bn, m, q1, q2, q3, q4, q5, q6, hf, hok⟩
        · have hok : Ok nb (lapp es [(ix, y, cl)] fun es => HM.set b (.map es (Nat.succ cl)) (k dU)) s1 outs := hok
          rw [lapp_eq] at hok
          obtain ⟨hb, s2, hs2, hok⟩ := Ok_set hok
          refine ⟨w.putObj c (.map (ms.push { key := v, val := q, born := cl }) (cl + 1)), s2, ?_, ?_, hok⟩
          · simp [Instr.mapUpdate, run_underlying hd, hc, run_find hd2 hf, run_getObj hoc, run_setObj_any hoc]
          · rw [hs2, hs1]
            exact r.upd hb hg (by simp) hρ (Upd.putObj _ hoc (fun _ _ _ h => by cases h)) ⟨rfl, _, rfl, by rw [Array.toList_push]; exact hes.app ⟨_, [], rfl, hi, hy, rfl, rfl⟩⟩
        · rw [Nat.zero_add] at hf hok
          obtain ⟨es', q7, hok⟩ := mset_ok (f := fun e => { e with key := v, val := q }) es n ms.toList m _ hes q2 (fun k h => by rw [q3] at h; exact h) hy rfl hok
          obtain ⟨hb, s2, hs2, hok⟩ := Ok_set hok
          refine ⟨w.putObj c (.map (ms.modify n fun e => { e with key := v, val := q }) cl), s2, ?_, ?_, hok⟩
          · have hkk : ((ms[n]?).map (·.key)).getD v = v := by rw [getD_key q2, q3]
            simp [Instr.mapUpdate, run_underlying hd, hc, run_find hd2 hf, run_getObj hoc, run_setObj_any hoc, hkk, run_stays hk]
          · rw [hs2, hs1]
            exact r.upd hb hg (by simp) hρ (Upd.putObj _ hoc (fun _ _ _ h => by cases h)) ⟨rfl, _, rfl, by rw [Array.toList_modify]; exact q7⟩
      | _ => exact (Ok_fail hok).elim
    | _ => exact (Ok_fail hok).elim
  | _ => exact (Ok_fail hok).elim
end Go.Proofs.YtcongfiojbajeaaD

/- Operation by operation: a map's entries, ranges over it. Conditions: none. -/
namespace Go.Proofs.YtcongfiojbajeaaD
open Go Go.RowKit
set_option linter.unusedVariables false
set_option linter.unusedSimpArgs false
variable {P : Program} {E : Env} {nb base : Nat} {w0 w : World} {ρ : Rho} {s : St} {outs : Outs}

theorem tup2_rel {a b : DVal} {u v : Value} (h1 : VRel ρ a u) (h2 : VRel ρ b v) : VRel ρ (.tuple [a, b]) (.tuple #[u, v]) := by
  simp only [VRel]; exact ⟨_, rfl, VsRel.cons h1 (VsRel.cons h2 VsRel.nil)⟩
theorem tup3_rel {a b c : DVal} {u v q : Value} (h1 : VRel ρ a u) (h2 : VRel ρ b v) (h3 : VRel ρ c q) : VRel ρ (.tuple [a, b, c]) (.tuple #[u, v, q]) := by
  simp only [VRel]; exact ⟨_, rfl, VsRel.cons h1 (VsRel.cons h2 (VsRel.cons h3 VsRel.nil))⟩
theorem mapEntry_sim (he : EOk P E) {t : Nat} {x ix : DVal} {u v : Value} (hx : VRel ρ x u) (hi : VRel ρ ix v) : Sim P nb base w0 ρ w (Instr.mapEntry t u v) (mapEntryX E t x ix) VRel := by
  intro k s outs hok r
  unfold mapEntryX at hok
  obtain ⟨d, hd, hok⟩ := Ok_desc he hok
  cases d with
  | map kt el =>
    cases x with
    | map b =>
      simp only [VRel] at hx
      obtain ⟨c, hρ, rfl⟩ := hx
      obtain ⟨d, hd2, hk, hc, hok⟩ := keyX_ok he hi hok
      obtain ⟨ob, s1, hs1, hg, hok⟩ := Ok_get hok
      obtain ⟨oc, hoc, hor⟩ := r.at hρ hg
      cases ob with
      | map es cl =>
        obtain ⟨_, ms, rfl, hes⟩ := hor
        rcases mfind_ok (.inl hk) hi es ms.toList 0 _ hes hok with ⟨hf, hok⟩ | ⟨n, k', v', bn, m, q1, q2, q3, q4, q5, q6, hf, hok⟩
        · obtain ⟨zv, z, hz, hzr, hok⟩ := Ok_zeroV he hok
          have hok : Ok nb (lapp es [(ix, z, cl)] fun es => HM.set b (.map es (Nat.succ cl)) (k (.tuple [z, .int .i64 (Int.ofNat cl)]))) s1 outs := hok
          rw [lapp_eq] at hok
          obtain ⟨hb, s2, hs2, hok⟩ := Ok_set hok
          refine ⟨ρ, w.putObj c (.map (ms.push { key := v, val := zv, born := cl }) (cl + 1)), _, .tuple #[zv, goInt cl], s2, ρ.le_refl, ?_, ?_, tup2_rel (hzr ρ) (by simp only [VRel]; rfl), hok⟩
          · simp [Instr.mapEntry, run_underlying hd, hc, run_find hd2 hf, run_getObj hoc, run_setObj_any hoc, hz]
          · rw [hs2, hs1]
            exact r.upd hb hg (by simp) hρ (Upd.putObj _ hoc (fun _ _ _ h => by cases h)) ⟨rfl, _, rfl, by rw [Array.toList_push]; exact hes.app ⟨_, [], rfl, hi, hzr ρ, rfl, rfl⟩⟩
        · rw [Nat.zero_add] at hf hok
          obtain ⟨hb, s2, hs2, hok⟩ := Ok_set hok
          have hkk : ((ms[n]?).map (·.key)).getD v = v := by rw [getD_key q2, q3]
          have hms : ms[n]? = some m := by rw [← Array.getElem?_toList]; exact q2
          refine ⟨ρ, w.putObj c (.map (ms.modify n fun e => { e with key := v }) cl), _, .tuple #[m.val, goInt bn], s2, ρ.le_refl, ?_, ?_, tup2_rel q5 (by simp only [VRel]; rfl), hok⟩
          · simp [Instr.mapEntry, run_underlying hd, hc, run_find hd2 hf, run_getObj hoc, run_setObj_any hoc, hms, q3, q6, run_stays hk]
          · rw [hs2, hs1]
            exact r.upd hb hg (by simp) hρ (Upd.putObj _ hoc (fun _ _ _ h => by cases h)) ⟨rfl, _, rfl, by rw [Array.toList_modify]; exact EsRel.modify es n ms.toList m hes q2 (by rw [← q3])⟩
      | _ => exact (Ok_fail hok).elim
    | _ => exact (Ok_fail hok).elim
  | _ => exact (Ok_fail hok).elim
theorem mborn_ok {bn : Nat} : ∀ (es : List (DVal × DVal × Nat)) (i : Nat) (ms : List MapEntry) (c : Nat → HM), EsRel ρ es ms → Ok nb (mborn bn es i c) s outs →
    ∃ n m, ms[n]? = some m ∧ m.born = bn ∧ ms.findIdx? (fun e => (e.born : Int) == (bn : Int)) = some n ∧ ms.find? (fun e => e.born == bn) = some m ∧ Ok nb (c (i + n)) s outs := by
  intro es
  induction es with
  | nil => intro i ms c h hok; exact (Ok_fail hok).elim
  | cons e es ih =>
    intro i ms c h hok
    obtain ⟨m, ms', rfl, h1, h2, h3, h4⟩ := h
    obtain ⟨k, v, b⟩ := e
    have h3 : m.born = b := h3
    rcases Ok_brec (show Ok nb (Bool.rec (mborn bn es (Nat.succ i) c) (c i) (Nat.beq b bn)) s outs from hok) with ⟨hc, hok⟩ | ⟨hc, hok⟩
    · rw [beq_iff] at hc
      exact ⟨0, m, rfl, by rw [h3, hc], by simp [List.findIdx?_cons, h3, hc], by simp [List.find?_cons, h3, hc], hok⟩
    · have hne : ¬ b = bn := by intro e; rw [← beq_iff] at e; rw [e] at hc; cases hc
      obtain ⟨n, m', q1, q2, q3, q4, q5⟩ := ih (i + 1) ms' c h4 hok
      have hne2 : ¬ (b : Int) = (bn : Int) := by omega
      exact ⟨n + 1, m', by simpa using q1, q2, by simp [List.findIdx?_cons, h3, hne2, hne, q3], by simp [List.find?_cons, h3, hne, q4], by rw [show i + (n + 1) = i + 1 + n by omega]; exact q5⟩
theorem natOf_rel {d : DVal} {v : Value} {k : Nat → HM} (hv : VRel ρ d v) (h : Ok nb (natOf d k) s outs) : ∃ kd n, v = .int kd (Int.ofNat n) ∧ Ok nb (k n) s outs := by
  obtain ⟨kd, n, e, h⟩ := natOf_ok h
  subst e
  simp only [VRel] at hv
  exact ⟨kd, n, hv, h⟩
theorem entryStore_sim {t : Nat} {x st y : DVal} {u v q : Value} {k : K} (hx : VRel ρ x u) (hi : VRel ρ st v) (hy : VRel ρ y q) (hok : Ok nb (entryStoreX x st y k) s outs) (r : Rel P nb base w0 ρ s.h w) :
    ∃ w' s', (Instr.entryStore t u v q).run P w = .ok () w' ∧ Rel P nb base w0 ρ s'.h w' ∧ Ok nb (k dU) s' outs := by
  unfold entryStoreX at hok
  cases x with
  | map b =>
    simp only [VRel] at hx
    obtain ⟨c, hρ, rfl⟩ := hx
    obtain ⟨kd, bn, rfl, hok⟩ := natOf_rel hi hok
    obtain ⟨ob, s1, hs1, hg, hok⟩ := Ok_get hok
    obtain ⟨oc, hoc, hor⟩ := r.at hρ hg
    cases ob with
    | map es cl =>
      obtain ⟨_, ms, rfl, hes⟩ := hor
      obtain ⟨n, m, q1, q2, q3, _, hok⟩ := mborn_ok es 0 ms.toList _ hes hok
      rw [Nat.zero_add] at hok
      obtain ⟨es', q7, hok⟩ := mset_ok (f := fun e => { e with val := q }) es n ms.toList m _ hes q1 (fun k h => h) hy rfl hok
      obtain ⟨hb, s2, hs2, hok⟩ := Ok_set hok
      have q3' : ms.findIdx? (fun e => (e.born : Int) == (bn : Int)) = some n := by rw [← q3, ← List.findIdx?_toArray, Array.toArray_toList]
      refine ⟨w.putObj c (.map (ms.modify n fun e => { e with val := q }) cl), s2, ?_, ?_, hok⟩
      · simp [Instr.entryStore, run_getObj hoc, asInt, asIntOf, q3', run_setObj_any hoc]
      · rw [hs2, hs1]
        exact r.upd hb hg (by simp) hρ (Upd.putObj _ hoc (fun _ _ _ h => by cases h)) ⟨rfl, _, rfl, by rw [Array.toList_modify]; exact q7⟩
    | _ => exact (Ok_fail hok).elim
  | _ => exact (Ok_fail hok).elim
theorem delete_sim (he : EOk P E) {t ty : Nat} {ts : Array TypeId} {vs : Array Value} {x y : DVal} {u v : Value} (h0 : ts[0]? = some t) (h1 : vs[0]? = some u) (h2 : vs[1]? = some v) (hx : VRel ρ x u) (hi : VRel ρ y v) :
    Sim P nb base w0 ρ w (Builtin.delete_ ts ty vs) (deleteX E t x y) VRel := by
  intro k s outs hok r
  unfold deleteX at hok
  have fin : ∀ w' (s1 : St), (Builtin.delete_ ts ty vs).run P w = .ok (.tuple #[]) w' → Rel P nb base w0 ρ s1.h w' → Ok nb (k dU) s1 outs →
      ∃ (ρ' : Rho) (w' : World) (x : DVal) (y : Value) (s' : St), ρ.le ρ' ∧ (Builtin.delete_ ts ty vs).run P w = .ok y w' ∧ Rel P nb base w0 ρ' s'.h w' ∧ VRel ρ' x y ∧ Ok nb (k x) s' outs :=
    fun w' s1 h h2 h3 => ⟨ρ, w', _, _, s1, ρ.le_refl, h, h2, by simp only [dU, VRel]; exact ⟨#[], rfl, VsRel.nil⟩, h3⟩
  obtain ⟨d, hd, hok⟩ := Ok_desc he hok
  cases d with
  | map kt el =>
    cases x with
    | nilm =>
      simp only [VRel] at hx; subst hx
      obtain ⟨d, hd2, hk, hc, hok⟩ := keyX_ok he hi hok
      exact fin w s (by simp [Builtin.delete_, h0, h1, h2, run_underlying hd, hc]) r hok
    | map b =>
      simp only [VRel] at hx
      obtain ⟨c, hρ, rfl⟩ := hx
      obtain ⟨d, hd2, hk, hc, hok⟩ := keyX_ok he hi hok
      obtain ⟨ob, s1, hs1, hg, hok⟩ := Ok_get hok
      obtain ⟨oc, hoc, hor⟩ := r.at hρ hg
      cases ob with
      | map es cl =>
        obtain ⟨_, ms, rfl, hes⟩ := hor
        rcases mfind_ok (.inl hk) hi es ms.toList 0 _ hes hok with ⟨hf, hok⟩ | ⟨n, k', v', bn, m, q1, q2, q3, q4, q5, q6, hf, hok⟩
        · obtain ⟨hb, s2, hs2, hok⟩ := Ok_set hok
          refine fin (w.putObj c (.map ms cl)) s2 (by simp [Builtin.delete_, h0, h1, h2, run_underlying hd, hc, run_find hd2 hf, run_getObj hoc, run_setObj_any hoc]) ?_ hok
          rw [hs2, hs1]
          exact r.upd hb hg (by simp) hρ (Upd.putObj _ hoc (fun _ _ _ h => by cases h)) ⟨rfl, ms, rfl, hes⟩
        · rw [Nat.zero_add] at hf hok
          obtain ⟨es', q7, hok⟩ := mdel_ok es n ms.toList _ hes hok
          obtain ⟨hb, s2, hs2, hok⟩ := Ok_set hok
          refine fin (w.putObj c (.map (ms.eraseIdxIfInBounds n) cl)) s2 (by simp [Builtin.delete_, h0, h1, h2, run_underlying hd, hc, run_find hd2 hf, run_getObj hoc, run_setObj_any hoc]) ?_ hok
          rw [hs2, hs1]
          exact r.upd hb hg (by simp) hρ (Upd.putObj _ hoc (fun _ _ _ h => by cases h)) ⟨rfl, _, rfl, by simpa using q7⟩
      | _ => exact (Ok_fail hok).elim
    | _ => exact (Ok_fail hok).elim
  | _ => exact (Ok_fail hok).elim
theorem newObj_ok {o : AObj} {oc : Obj} {k : Nat → HM} (hok : Ok nb (.new o k) s outs) (r : Rel P nb base w0 ρ s.h w) (ho : ∀ ρ', ρ.le ρ' → ORel ρ' o oc 0) :
    ∃ ρ' b s', ρ.le ρ' ∧ ρ' b = some (w.heap.size, 0) ∧ Rel P nb base w0 ρ' s'.h (w.alloc oc) ∧ Ok nb (k b) s' outs := by
  obtain ⟨g, hn, s', hs', hok⟩ := Ok_new hok
  have hle := Rho.le_add (ρ := ρ) w.heap.size 0 none ((r.dom s.n (by omega)).2 g) (fun h => by cases h)
  obtain ⟨hrel, hle⟩ := r.alloc (oc := oc) hn g (ho _ hle)
  exact ⟨_, s.n, s', hle, by simp [Rho.add_f], by rw [hs']; exact hrel, hok⟩
theorem makeMap_sim {t : Nat} {rs : Option Value} (hrs : ∀ h, rs = some h → (∃ a b, P.underlying t = some (.map a b)) ∧ ∃ k n, h = .int k n) : Sim P nb base w0 ρ w (Instr.makeMap t rs) (fun c => HM.new (.map [] 0) fun b => c (.map b)) VRel := by
  intro k s outs hok r
  obtain ⟨ρ', b, s', hle, hb, hrel, hok⟩ := newObj_ok (oc := .map #[] 0) hok r (fun _ _ => ⟨rfl, #[], rfl, rfl⟩)
  refine ⟨ρ', _, _, .map (some w.heap.size), s', hle, ?_, hrel, by simp only [VRel]; exact ⟨_, hb, rfl⟩, hok⟩
  cases rs with
  | none => simp [Instr.makeMap, run_newObj_alloc]
  | some h =>
    obtain ⟨⟨a, b, hd⟩, kd, n, rfl⟩ := hrs h rfl
    simp [Instr.makeMap, run_newObj_alloc, run_underlying hd, asInt, asIntOf]
theorem range_sim (he : EOk P E) {t : Nat} {x : DVal} {u : Value} (hx : VRel ρ x u) : Sim P nb base w0 ρ w (Instr.range t u) (rangeX E t x) VRel := by
  intro k s outs hok r
  unfold rangeX at hok
  obtain ⟨d, hd, hok⟩ := Ok_desc he hok
  cases d with
  | map kt el =>
    cases x with
    | nilm =>
      simp only [VRel] at hx; subst hx
      obtain ⟨ρ', b, s', hle, hb, hrel, hok⟩ := newObj_ok (oc := .mapIter none 0 #[] 0) hok r (fun _ _ => ⟨rfl, none, #[], rfl, rfl, rfl⟩)
      refine ⟨ρ', _, _, .pointer (some ⟨w.heap.size, 0, none⟩), s', hle, ?_, hrel, ptr_rel hb, hok⟩
      simp [Instr.range, run_underlying hd, run_newObj_alloc]
    | map b =>
      simp only [VRel] at hx
      obtain ⟨c, hρ, rfl⟩ := hx
      obtain ⟨ob, s1, hs1, hg, hok⟩ := Ok_get hok
      obtain ⟨oc, hoc, hor⟩ := r.at hρ hg
      cases ob with
      | map es cl =>
        obtain ⟨_, ms, rfl, hes⟩ := hor
        have hr1 : Rel P nb base w0 ρ s1.h w := by rw [hs1]; exact r
        obtain ⟨ρ', b', s', hle, hb, hrel, hok⟩ := newObj_ok (oc := .mapIter (some c) cl #[] cl) hok hr1 (fun ρ' hl => ⟨rfl, some c, #[], rfl, rfl, c, hl.f _ _ hρ, rfl⟩)
        refine ⟨ρ', _, _, .pointer (some ⟨w.heap.size, 0, none⟩), s', hle, ?_, hrel, ptr_rel hb, hok⟩
        simp [Instr.range, run_underlying hd, run_getObj hoc, run_newObj_alloc]
      | _ => exact (Ok_fail hok).elim
    | _ => exact (Ok_fail hok).elim
  | _ => exact (Ok_fail hok).elim
end Go.Proofs.YtcongfiojbajeaaD

/- Operation by operation: the steps of a range over a map. Conditions: none. -/
namespace Go.Proofs.YtcongfiojbajeaaD
open Go Go.RowKit
set_option linter.unusedVariables false
set_option linter.unusedSimpArgs false
variable {P : Program} {E : Env} {nb base : Nat} {w0 w : World} {ρ : Rho} {s : St} {outs : Outs}

theorem nmem_iff (n : Nat) (l : List Nat) : nmem n l = true ↔ n ∈ l := by
  induction l with
  | nil => simp [nmem]
  | cons m l ih =>
    show (Bool.or (Nat.beq n m) (nmem n l)) = true ↔ _
    rw [show (Bool.or (Nat.beq n m) (nmem n l) = true) = (Nat.beq n m = true ∨ nmem n l = true) by cases Nat.beq n m <;> simp, beq_iff, ih]; simp
theorem mleft_ok {since : Nat} {seen : List Nat} : ∀ (es : List (DVal × DVal × Nat)) (ms : List MapEntry) (c : List (DVal × DVal × Nat) → HM), EsRel ρ es ms → Ok nb (mleft since seen es c) s outs →
    ∃ l, EsRel ρ l (ms.filter fun e => !decide (e.born ∈ seen)) ∧ (∀ m ∈ ms, m.born < since) ∧ Ok nb (c l) s outs := by
  intro es
  induction es with
  | nil => intro ms c h hok; obtain rfl := h; exact ⟨[], rfl, by simp, hok⟩
  | cons e es ih =>
    intro ms c h hok
    obtain ⟨m, ms', rfl, h1, h2, h3, h4⟩ := h
    obtain ⟨k, v, b⟩ := e
    have h3 : m.born = b := h3
    obtain ⟨hb, hok⟩ := Ok_chk (show Ok nb (Bool.rec .fail (Bool.rec (mleft since seen es fun r => c ((k, v, b) :: r)) (mleft since seen es c) (nmem b seen)) (Nat.blt b since)) s outs from hok)
    rw [blt_iff] at hb
    rcases Ok_brec hok with ⟨hc, hok⟩ | ⟨hc, hok⟩
    · rw [nmem_iff] at hc
      obtain ⟨l, q1, q2, q3⟩ := ih ms' c h4 hok
      refine ⟨l, by simpa [List.filter_cons, h3, hc] using q1, fun x hx => ?_, q3⟩
      rcases List.mem_cons.1 hx with rfl | hx
      · omega
      · exact q2 x hx
    · have hc' : ¬ b ∈ seen := by rw [← nmem_iff, hc]; simp
      obtain ⟨l, q1, q2, q3⟩ := ih ms' _ h4 hok
      refine ⟨(k, v, b) :: l, ?_, fun x hx => ?_, q3⟩
      · have : (m :: ms').filter (fun e => !decide (e.born ∈ seen)) = m :: ms'.filter (fun e => !decide (e.born ∈ seen)) := by simp [List.filter_cons, h3, hc']
        rw [this]; exact EsRel.cons_mk h1 h2 h3 q1
      · rcases List.mem_cons.1 hx with rfl | hx
        · omega
        · exact q2 x hx
theorem mnth_ok : ∀ (es : List (DVal × DVal × Nat)) (n : Nat) (ms : List MapEntry) (c : DVal → DVal → Nat → HM), EsRel ρ es ms → Ok nb (mnth es n c) s outs →
    ∃ m k v, ms[n]? = some m ∧ VRel ρ k m.key ∧ VRel ρ v m.val ∧ Ok nb (c k v m.born) s outs := by
  intro es
  induction es with
  | nil => intro n ms c h hok; exact (Ok_fail hok).elim
  | cons e es ih =>
    intro n ms c h hok
    obtain ⟨m, ms', rfl, h1, h2, h3, h4⟩ := h
    obtain ⟨k, v, b⟩ := e
    cases n with
    | zero => have h3 : m.born = b := h3; exact ⟨m, k, v, rfl, h1, h2, by rw [h3]; exact hok⟩
    | succ n => obtain ⟨m', k', v', q1, q2⟩ := ih n ms' c h4 hok; exact ⟨m', k', v', by simpa using q1, q2⟩
theorem run_next {c m since last cl ty : Nat} {seen' : Array Nat} {ms : Array MapEntry} {L : List MapEntry} (hit : w.heap[c]? = some (.mapIter (some m) since seen' last)) (hm : w.heap[m]? = some (.map ms cl))
    (hlt : ∀ e ∈ ms.toList, e.born < since) (hsl : since ≤ last) (hL : ms.toList.filter (fun e => !seen'.contains e.born) = L) :
    (L = [] → (Instr.next (.pointer (some ⟨c, 0, none⟩)) false ty).run P w = .ok (.tuple #[.bool false]) w) ∧
    (L ≠ [] → ∃ i n, ∃ h : i < L.length, (Instr.next (.pointer (some ⟨c, 0, none⟩)) false ty).run P w = .ok (.tuple #[.bool true, L[i].key, L[i].val]) (({ w with drawn := n } : World).putObj c (.mapIter (some m) since (seen'.push L[i].born) cl))) := by
  have hguard : (!seen'.isEmpty && !ms.isEmpty && ms.all (·.born ≥ last)) = false := by
    by_cases he : ms.isEmpty = true
    · simp [he]
    · obtain ⟨x, hx⟩ : ∃ x, x ∈ ms.toList := by
        cases hms : ms.toList with
        | nil => exact absurd (by simpa using hms) (by simpa using he)
        | cons x l => exact ⟨x, by simp⟩
      have hxl := hlt x hx
      have : ms.all (·.born ≥ last) = false := by
        rw [Array.all_eq_false]
        obtain ⟨i, hi, hx2⟩ := List.getElem_of_mem hx
        refine ⟨i, by simpa using hi, ?_⟩
        have : ms[i]'(by simpa using hi) = x := by simpa using hx2
        rw [this]; simp; omega
      simp [this]
  have hf : ms.filter (fun e => !seen'.contains e.born) = L.toArray := by apply Array.ext'; rw [Array.toList_filter, hL]
  have hLm : ∀ e ∈ L, e.born < since := fun e he => hlt e (by rw [← hL] at he; exact (List.mem_filter.1 he).1)
  have hold : L.toArray.filter (fun e => decide (e.born < since)) = L.toArray := by
    apply Array.ext'
    rw [Array.toList_filter]
    exact List.filter_eq_self.2 fun e he => by simpa using hLm e he
  have hnew : L.toArray.filter (fun e => decide (e.born ≥ since)) = #[] := by
    apply Array.ext'
    rw [Array.toList_filter]
    exact List.filter_eq_nil_iff.2 fun e he => by have := hLm e he; simp; omega
  refine ⟨fun h0 => ?_, fun h0 => ?_⟩
  · subst h0
    simp only [Instr.next, Sem.run_bind, run_getObj hit, Result.andThen_ok, run_getObj hm, hguard, Bool.false_eq_true, if_false, hf, hold, hnew]
    simp [Question.forced]
  · have hpos : 0 < L.length := List.length_pos_iff.2 h0
    have hemp : L.toArray.isEmpty = false := by cases L <;> simp_all
    have hcand : (((if L.toArray.isEmpty then #[none] else #[]) ++ (L.toArray ++ #[]).map some : Array (Option MapEntry))) = L.toArray.map some := by rw [hemp]; simp
    have hch : ∃ i n, i < L.length ∧ (choose (.mapNext L.length)).run P w = .ok i { w with drawn := n } := by
      rw [run_choose]
      by_cases h1 : L.length ≤ 1
      · exact ⟨0, w.drawn, hpos, by rw [if_pos (by simpa [Question.forced] using h1)]⟩
      · exact ⟨_, w.drawn + 1, Nat.mod_lt _ hpos, by rw [if_neg (by simpa [Question.forced] using h1)]; rfl⟩
    obtain ⟨i, n, hi, hch⟩ := hch
    refine ⟨i, n, hi, ?_⟩
    have hit' : ({ w with drawn := n } : World).heap[c]? = some (.mapIter (some m) since seen' last) := hit
    simp only [Instr.next, Sem.run_bind, run_getObj hit, Result.andThen_ok, run_getObj hm, hguard, Bool.false_eq_true, if_false, hf, hold, hnew]
    simp only [hcand, Array.size_map, List.size_toArray, hch, Result.andThen_ok]
    simp [hi, run_setObj_any hit']
end Go.Proofs.YtcongfiojbajeaaD

/- Operation by operation: the steps of a range over a map, and what an iterator stands on. Conditions: none. -/
namespace Go.Proofs.YtcongfiojbajeaaD
open Go Go.RowKit
set_option linter.unusedVariables false
set_option linter.unusedSimpArgs false
variable {P : Program} {E : Env} {nb base : Nat} {w0 w : World} {ρ : Rho} {s : St} {outs : Outs}

theorem seen_has {seen : List Nat} {seen' : Array Nat} (h : seen'.toList = seen.reverse) (x : Nat) : seen'.contains x = decide (x ∈ seen) := by
  rw [Bool.eq_iff_iff]
  simp only [Array.contains_iff_mem, decide_eq_true_eq]
  rw [← Array.mem_toList_iff, h, List.mem_reverse]
theorem next_sim {ty : Nat} {it : DVal} {u : Value} (hx : VRel ρ it u) : Sim P nb base w0 ρ w (Instr.next u false ty) (nextX it) VRel := by
  intro k s outs hok r
  unfold nextX at hok
  cases it with
  | ptr b o =>
    cases o with
    | succ o => exact (Ok_fail hok).elim
    | zero =>
      simp only [VRel] at hx
      obtain ⟨c, sh, hρ, rfl⟩ := hx
      obtain ⟨ob, s1, hs1, hg, hok⟩ := Ok_get hok
      obtain ⟨oc, hoc, hor⟩ := r.at hρ hg
      cases ob with
      | miter m since seen last =>
        obtain ⟨rfl, m', seen', rfl, hseen, hm⟩ := hor
        have hr1 : Rel P nb base w0 ρ s1.h w := by rw [hs1]; exact r
        cases m with
        | none =>
          obtain rfl := hm
          refine ⟨ρ, w, _, .tuple #[.bool false], s1, ρ.le_refl, by simp [Instr.next, run_getObj hoc], hr1, ?_, hok⟩
          simp only [VRel]; exact ⟨_, rfl, VsRel.cons (by simp only [VRel]) VsRel.nil⟩
        | some m =>
          obtain ⟨mc, hmρ, rfl⟩ := hm
          obtain ⟨om, s2, hs2, hgm, hok⟩ := Ok_get hok
          obtain ⟨omc, homc, horm⟩ := hr1.at hmρ hgm
          have hr2 : Rel P nb base w0 ρ s2.h w := by rw [hs2]; exact hr1
          have hg2 : T.get s2.h b = some (.miter (some m) since seen last) := by rw [hs2, hs1]; exact hg
          cases om with
          | map es cl =>
            obtain ⟨_, ms, rfl, hes⟩ := horm
            obtain ⟨hsl, hok⟩ := Ok_chk hok
            rw [ble_iff] at hsl
            obtain ⟨l, hl, hlt, hok⟩ := mleft_ok es ms.toList _ hes hok
            have hL : ms.toList.filter (fun e => !seen'.contains e.born) = ms.toList.filter (fun e => !decide (e.born ∈ seen)) := by
              congr 1; funext e; rw [seen_has hseen]
            obtain ⟨hn1, hn2⟩ := run_next (P := P) (ty := ty) hoc homc hlt hsl hL
            have step : ∀ (n i : Nat) (hi : i < (ms.toList.filter (fun e => !decide (e.born ∈ seen))).length) (kk vv : DVal) (bn : Nat) (s3 : St), s3.h = s2.h →
                VRel ρ kk (ms.toList.filter (fun e => !decide (e.born ∈ seen)))[i].key → VRel ρ vv (ms.toList.filter (fun e => !decide (e.born ∈ seen)))[i].val → bn = (ms.toList.filter (fun e => !decide (e.born ∈ seen)))[i].born →
                (Instr.next (.pointer (some ⟨c, 0, none⟩)) false ty).run P w = .ok (.tuple #[.bool true, (ms.toList.filter (fun e => !decide (e.born ∈ seen)))[i].key, (ms.toList.filter (fun e => !decide (e.born ∈ seen)))[i].val])
                  (({ w with drawn := n } : World).putObj c (.mapIter (some mc) since (seen'.push (ms.toList.filter (fun e => !decide (e.born ∈ seen)))[i].born) cl)) →
                Ok nb (HM.set b (.miter (some m) since (bn :: seen) cl) (k (.tuple [.bool true, kk, vv]))) s3 outs →
                ∃ (ρ' : Rho) (w' : World) (x : DVal) (y : Value) (s' : St), ρ.le ρ' ∧ (Instr.next (.pointer (some ⟨c, 0 + 0, none⟩)) false ty).run P w = .ok y w' ∧ Rel P nb base w0 ρ' s'.h w' ∧ VRel ρ' x y ∧ Ok nb (k x) s' outs := by
              intro n i hi kk vv bn s3 hs3 h1 h2 h3 hrun hok
              obtain ⟨hb, s4, hs4, hok⟩ := Ok_set hok
              refine ⟨ρ, _, _, _, s4, ρ.le_refl, hrun, ?_, tup3_rel (by simp only [VRel]) h1 h2, hok⟩
              rw [hs4, hs3]
              subst h3
              have hoc' : ({ w with drawn := n } : World).heap[c]? = some (.mapIter (some mc) since seen' last) := hoc
              exact (hr2.draw n).upd hb hg2 (by simp) hρ (Upd.putObj _ hoc' (fun _ _ _ h => by cases h)) ⟨rfl, some mc, _, rfl, by rw [Array.toList_push, hseen]; simp, mc, hmρ, rfl⟩
            cases l with
            | nil =>
              obtain ⟨hb, s3, hs3, hok⟩ := Ok_set hok
              have h0 := hl
              refine ⟨ρ, w, _, .tuple #[.bool false], s3, ρ.le_refl, hn1 h0, by rw [hs3]; exact hr2.die (by omega) hg2, ?_, hok⟩
              simp only [VRel]; exact ⟨_, rfl, VsRel.cons (by simp only [VRel]) VsRel.nil⟩
            | cons e l =>
              have hne : ms.toList.filter (fun e => !decide (e.born ∈ seen)) ≠ [] := by obtain ⟨x, xs, h, _⟩ := hl; rw [h]; simp
              obtain ⟨i, n, hi, hrun⟩ := hn2 hne
              cases l with
              | nil =>
                obtain ⟨x, xs, hx, h1, h2, h3, h4⟩ := hl
                obtain rfl : xs = [] := h4
                have hi0 : i = 0 := by rw [hx] at hi; simpa using hi
                subst hi0
                obtain ⟨kk, vv, bn⟩ := e
                exact step n 0 hi kk vv bn s2 rfl (by simp only [hx]; exact h1) (by simp only [hx]; exact h2) (by simp only [hx]; exact h3.symm) hrun hok
              | cons e2 l =>
                have hok := Ok_amb hok i (by rw [mlen_eq, hl.len]; exact hi)
                obtain ⟨mm, kk, vv, q1, q2, q3, hok⟩ := mnth_ok _ _ _ _ hl hok
                have hmm : (ms.toList.filter (fun e => !decide (e.born ∈ seen)))[i] = mm := by rw [List.getElem?_eq_getElem hi] at q1; exact Option.some.inj q1
                exact step n i hi kk vv mm.born s2 rfl (by rw [hmm]; exact q2) (by rw [hmm]; exact q3) (by rw [hmm]) hrun hok
          | _ => exact (Ok_fail hok).elim
      | _ => exact (Ok_fail hok).elim
  | _ => exact (Ok_fail hok).elim
theorem entry_sim {it : DVal} {u : Value} (hx : VRel ρ it u) : Sim P nb base w0 ρ w (Instr.entry u) (entryX it) VRel := by
  intro k s outs hok r
  unfold entryX at hok
  cases it with
  | ptr b o =>
    cases o with
    | succ o => exact (Ok_fail hok).elim
    | zero =>
      simp only [VRel] at hx
      obtain ⟨c, sh, hρ, rfl⟩ := hx
      obtain ⟨ob, s1, hs1, hg, hok⟩ := Ok_get hok
      obtain ⟨oc, hoc, hor⟩ := r.at hρ hg
      cases ob with
      | miter m since seen last =>
        obtain ⟨rfl, m', seen', rfl, hseen, hm⟩ := hor
        have hr1 : Rel P nb base w0 ρ s1.h w := by rw [hs1]; exact r
        cases m with
        | none => exact (Ok_fail hok).elim
        | some m =>
          obtain ⟨mc, hmρ, rfl⟩ := hm
          obtain ⟨om, s2, hs2, hgm, hok⟩ := Ok_get hok
          obtain ⟨omc, homc, horm⟩ := hr1.at hmρ hgm
          have hr2 : Rel P nb base w0 ρ s2.h w := by rw [hs2]; exact hr1
          cases om with
          | map es cl =>
            obtain ⟨_, ms, rfl, hes⟩ := horm
            cases seen with
            | nil => exact (Ok_fail hok).elim
            | cons sn seen =>
              obtain ⟨hcl, hok2⟩ := Ok_chk hok
              clear hok
              rw [beq_iff] at hcl
              subst hcl
              obtain ⟨n, mm, q1, q2, _, q4, hok⟩ := mborn_ok es 0 ms.toList _ hes hok2
              obtain ⟨mm2, kk, vv, p1, p2, p3, hok⟩ := mnth_ok _ _ _ _ hes hok
              rw [Nat.zero_add, q1] at p1
              obtain rfl := Option.some.inj p1
              have hback : seen'.back? = some sn := by
                rw [← Array.getLast?_toList, hseen]; simp
              have hfind : ms.find? (fun e => e.born == sn) = some mm := by rw [← q4, ← List.find?_toArray, Array.toArray_toList]
              refine ⟨ρ, w, _, .tuple #[mm.key, mm.val], s2, ρ.le_refl, ?_, hr2, tup2_rel p2 p3, hok⟩
              simp [Instr.entry, run_getObj hoc, run_getObj homc, hback, hfind]
          | _ => exact (Ok_fail hok).elim
      | _ => exact (Ok_fail hok).elim
  | _ => exact (Ok_fail hok).elim
end Go.Proofs.YtcongfiojbajeaaD
