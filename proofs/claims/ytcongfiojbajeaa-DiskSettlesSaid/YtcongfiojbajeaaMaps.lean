/- Maps that the walk meets, told as lists of pairs: whatever the elements are (H := Value: an element reads as itself). -/
import Derived.Maps.RangeWalk
import Derived.Maps.Ext
import Derived.WalkKit
import Derived.RangeFuncBox
namespace Go.Proofs.YtcongfiojbajeaaM
open Go.RowKit Go.Maps Go.ChangeMaps Go.MapKept Go.WideShapes
set_option linter.unusedSectionVars false

def heldElem (v : Value) : Option (DataW Value × List MemPlace) := some (.held v, [])

section
variable {κ ν : Type} [DecidableEq κ]
/-- What stands at a key. -/
def get (l : List (κ × ν)) (x : κ) : Option ν := (l.find? (fun p => p.1 = x)).map (·.2)
def setL : List (κ × ν) → κ → ν → List (κ × ν)
  | [], x, v => [(x, v)]
  | p :: l, x, v => if p.1 = x then (x, v) :: l else p :: setL l x v
def delL (l : List (κ × ν)) (x : κ) : List (κ × ν) := l.filter (fun p => p.1 ≠ x)

theorem get_nil (x : κ) : get ([] : List (κ × ν)) x = none := rfl
theorem get_cons (p : κ × ν) (l : List (κ × ν)) (x : κ) : get (p :: l) x = if p.1 = x then some p.2 else get l x := by
  unfold get; rw [List.find?_cons]; by_cases h : p.1 = x <;> simp [h]
theorem get_setL (l : List (κ × ν)) (x y : κ) (v : ν) : get (setL l x v) y = if x = y then some v else get l y := by
  induction l with
  | nil => simp only [setL, get_cons, get_nil]
  | cons p l ih =>
    simp only [setL]
    by_cases h : p.1 = x
    · rw [if_pos h, get_cons, get_cons]
      by_cases h2 : x = y
      · simp [h2]
      · simp [h2, h]
    · rw [if_neg h, get_cons, ih, get_cons]
      by_cases h2 : p.1 = y
      · rw [if_pos h2, if_pos h2, if_neg (fun e => h (h2.trans e.symm))]
      · rw [if_neg h2, if_neg h2]
theorem get_delL (l : List (κ × ν)) (x y : κ) : get (delL l x) y = if x = y then none else get l y := by
  induction l with
  | nil => simp [delL, get_nil]
  | cons p l ih =>
    unfold delL at ih ⊢
    rw [List.filter_cons]
    by_cases h : p.1 = x
    · rw [if_neg (by simp [h]), ih, get_cons]
      by_cases h2 : x = y
      · simp [h2]
      · rw [if_neg h2, if_neg h2, if_neg (fun e => h2 (h.symm.trans e))]
    · rw [if_pos (by simp [h]), get_cons, ih, get_cons]
      by_cases h2 : p.1 = y
      · rw [if_pos h2, if_pos h2, if_neg (fun e => h (h2.trans e.symm))]
      · rw [if_neg h2, if_neg h2]
theorem get_filter (l : List (κ × ν)) (q : κ × ν → Bool) (hn : (l.map (·.1)).Nodup) (y : κ) : get (l.filter q) y = (get l y).bind fun v => if q (y, v) then some v else none := by
  induction l with
  | nil => simp [get_nil]
  | cons p l ih =>
    rw [List.map_cons, List.nodup_cons] at hn
    have ih := ih hn.2
    rw [List.filter_cons, get_cons]
    by_cases h : p.1 = y
    · have hp : (y, p.2) = p := by rw [← h]
      have hno : get l y = none := by
        unfold get
        rw [List.find?_eq_none.2]
        · rfl
        · intro z hz
          simp only [decide_eq_true_eq]
          intro e
          exact hn.1 (List.mem_map.2 ⟨z, hz, e.trans h.symm⟩)
      by_cases hq : q p = true
      · rw [if_pos hq, get_cons, if_pos h, if_pos h, Option.bind_some, hp, if_pos hq]
      · rw [if_neg hq, ih, hno, if_pos h, Option.bind_some, hp, if_neg hq]; rfl
    · by_cases hq : q p = true
      · rw [if_pos hq, get_cons, if_neg h, ih, if_neg h]
      · rw [if_neg hq, ih, if_neg h]
theorem get_mem {l : List (κ × ν)} {x : κ} {v : ν} (h : get l x = some v) : (x, v) ∈ l := by
  unfold get at h
  obtain ⟨p, hp, rfl⟩ := Option.map_eq_some_iff.1 h
  have h1 := List.mem_of_find?_eq_some hp
  have h2 := List.find?_some hp
  simp only [decide_eq_true_eq] at h2
  rw [← h2]; exact h1
theorem get_of_mem {l : List (κ × ν)} (hn : (l.map (·.1)).Nodup) {p : κ × ν} (h : p ∈ l) : get l p.1 = some p.2 := by
  induction l with
  | nil => cases h
  | cons q l ih =>
    rw [List.map_cons, List.nodup_cons] at hn
    rw [get_cons]
    rcases List.mem_cons.1 h with rfl | h
    · rw [if_pos rfl]
    · rw [if_neg, ih hn.2 h]
      intro e
      exact hn.1 (List.mem_map.2 ⟨p, h, e.symm⟩)
theorem get_isSome {l : List (κ × ν)} {x : κ} : (get l x).isSome = l.any (fun p => p.1 = x) := by
  unfold get
  rw [Option.isSome_map]
  induction l with
  | nil => rfl
  | cons p l ih => rw [List.find?_cons, List.any_cons, ← ih]; by_cases h : p.1 = x <;> simp [h]
theorem keys_setL (l : List (κ × ν)) (x : κ) (v : ν) : ∀ y, y ∈ (setL l x v).map (·.1) ↔ y = x ∨ y ∈ l.map (·.1) := by
  induction l with
  | nil => intro y; simp [setL]
  | cons p l ih =>
    intro y
    simp only [setL]
    by_cases h : p.1 = x
    · rw [if_pos h]; simp only [List.map_cons, List.mem_cons, h]
      constructor
      · rintro (h | h) <;> simp [h]
      · rintro (h | h | h) <;> simp [h]
    · rw [if_neg h]; simp only [List.map_cons, List.mem_cons, ih y]
      constructor
      · rintro (h | h | h) <;> simp [h]
      · rintro (h | h | h) <;> simp [h]
theorem nodup_setL (l : List (κ × ν)) (x : κ) (v : ν) (hn : (l.map (·.1)).Nodup) : ((setL l x v).map (·.1)).Nodup := by
  induction l with
  | nil => simp [setL]
  | cons p l ih =>
    rw [List.map_cons, List.nodup_cons] at hn
    simp only [setL]
    by_cases h : p.1 = x
    · rw [if_pos h, List.map_cons, List.nodup_cons]; exact ⟨by rw [← h]; exact hn.1, hn.2⟩
    · rw [if_neg h, List.map_cons, List.nodup_cons]
      refine ⟨fun hm => ?_, ih hn.2⟩
      rcases (keys_setL l x v p.1).1 hm with e | e
      · exact h e
      · exact hn.1 e
theorem nodup_filter (l : List (κ × ν)) (q : κ × ν → Bool) (hn : (l.map (·.1)).Nodup) : ((l.filter q).map (·.1)).Nodup := hn.sublist (List.Sublist.map _ List.filter_sublist)
theorem length_setL (l : List (κ × ν)) (x : κ) (v : ν) : (setL l x v).length = if (get l x).isSome then l.length else l.length + 1 := by
  induction l with
  | nil => simp [setL, get_nil]
  | cons p l ih =>
    simp only [setL]
    rw [get_cons]
    by_cases h : p.1 = x
    · rw [if_pos h, if_pos h]; simp
    · rw [if_neg h, if_neg h, List.length_cons, ih, List.length_cons]; split <;> rfl
theorem length_delL (l : List (κ × ν)) (x : κ) (hn : (l.map (·.1)).Nodup) : (delL l x).length + (if (get l x).isSome then 1 else 0) = l.length := by
  induction l with
  | nil => simp [delL, get_nil]
  | cons p l ih =>
    rw [List.map_cons, List.nodup_cons] at hn
    have ih := ih hn.2
    unfold delL at ih ⊢
    rw [List.filter_cons, get_cons]
    by_cases h : p.1 = x
    · have hno : get l x = none := by
        unfold get
        rw [List.find?_eq_none.2]
        · rfl
        · intro z hz
          simp only [decide_eq_true_eq]
          intro e
          exact hn.1 (List.mem_map.2 ⟨z, hz, e.trans h.symm⟩)
      rw [hno] at ih
      rw [if_neg (by simp [h]), if_pos h]
      simp at ih ⊢
      omega
    · rw [if_pos (by simp [h]), if_neg h, List.length_cons, List.length_cons]
      omega
theorem setL_new {l : List (κ × ν)} {x : κ} {v : ν} (h : get l x = none) : setL l x v = l ++ [(x, v)] := by
  induction l with
  | nil => rfl
  | cons p l ih =>
    rw [get_cons] at h
    by_cases h2 : p.1 = x
    · rw [if_pos h2] at h; cases h
    · rw [if_neg h2] at h
      simp only [setL]; rw [if_neg h2, ih h]; rfl

/-- The datum D reads as the list l. -/
structure Rep (ek : κ → Lit) (ev : ν → Value) (D : DataW Value) (l : List (κ × ν)) : Prop where
  has : ∀ x, Maps.has D (ek x) = (get l x).isSome
  at_ : ∀ x v z, get l x = some v → D.atKey (ek x) z = .held (ev v)
  size : Maps.size D = l.length
  nodup : (l.map (·.1)).Nodup

variable {ek : κ → Lit} {ev : ν → Value} {D : DataW Value} {l : List (κ × ν)}
theorem rep_empty : Rep ek ev (.map [] : DataW Value) ([] : List (κ × ν)) := ⟨fun _ => rfl, fun x v z h => (by cases h), rfl, (by simp)⟩
theorem Rep.put (h : Rep ek ev D l) (hT : Maps.Tidy D) (hinj : ∀ x y, ek x = ek y → x = y) (hk : ∀ x, WideAt.IsKeyLit (ek x)) (x : κ) (v : ν) : Rep ek ev (D.put (ek x) (.held (ev v))) (setL l x v) := by
  refine ⟨fun y => ?_, fun y u z hy => ?_, ?_, nodup_setL l x v h.nodup⟩
  · rw [get_setL]
    by_cases e : x = y
    · subst e; rw [if_pos rfl, Maps.has_put_same hT.isMap (hk x)]; rfl
    · rw [if_neg e, Maps.has_put_other (fun e2 => e (hinj _ _ e2.symm)), h.has]
  · rw [get_setL] at hy
    by_cases e : x = y
    · subst e; rw [if_pos rfl] at hy; cases hy; exact Maps.atKey_put_same hT.isMap (hk x) _ _
    · rw [if_neg e] at hy; rw [Maps.atKey_put_other (fun e2 => e (hinj _ _ e2.symm))]; exact h.at_ y u z hy
  · rw [Maps.size_put hT, length_setL, h.has, h.size]
theorem Rep.del (h : Rep ek ev D l) (hT : Maps.Tidy D) (hinj : ∀ x y, ek x = ek y → x = y) (x : κ) : Rep ek ev (D.del (ek x)) (delL l x) := by
  refine ⟨fun y => ?_, fun y u z hy => ?_, ?_, nodup_filter l _ h.nodup⟩
  · rw [get_delL]
    by_cases e : x = y
    · subst e; rw [if_pos rfl, Maps.has_del_same]; rfl
    · rw [if_neg e, Maps.has_del_other (fun e2 => e (hinj _ _ e2.symm)), h.has]
  · rw [get_delL] at hy
    by_cases e : x = y
    · rw [if_pos e] at hy; cases hy
    · rw [if_neg e] at hy; rw [Maps.atKey_del_other (fun e2 => e (hinj _ _ e2.symm))]; exact h.at_ y u z hy
  · have h1 := Maps.size_del (k := ek x) hT
    have h2 := length_delL l x h.nodup
    rw [h.has, h.size] at h1
    omega

/-- Block b of w is a map that reads as the list l. -/
def IsMap (P : Program) (k : TypeId) (ek : κ → Lit) (ev : ν → Value) (w : World) (b : Nat) (l : List (κ × ν)) : Prop := ∃ D, w.ownsMap P k heldElem b l.length D ∧ Rep ek ev D l

variable {P : Program} {k : TypeId} {w : World} {b : Nat}
theorem owns_tight {n : Nat} {D : DataW Value} (h : w.ownsMap P k heldElem b n D) : w.ownsMap P k heldElem b (Maps.size D) D := by
  obtain ⟨es, clock, hb, F, hs, rfl⟩ := h
  exact ⟨es, clock, hb, F, by simp [Maps.size, length_sorted], rfl⟩
theorem IsMap.of {n : Nat} (h : w.ownsMap P k heldElem b n D) (hr : Rep ek ev D l) : IsMap P k ek ev w b l := ⟨D, by rw [← hr.size]; exact owns_tight h, hr⟩
theorem IsMap.new (w : World) (P : Program) (k : TypeId) : IsMap P k ek ev (w.alloc (.map #[] 0)) w.heap.size ([] : List (κ × ν)) := IsMap.of (World.ownsMap_made w P k heldElem) rep_empty
theorem IsMap.kept {w' : World} {row : Option Nat} (h : IsMap P k ek ev w b l) (hg : w.grownBy w' row) (hne : some b ≠ row) : IsMap P k ek ev w' b l := ⟨h.choose, h.choose_spec.1.kept hg hne, h.choose_spec.2⟩
theorem IsMap.heap {w' : World} (h : IsMap P k ek ev w b l) (hb : w'.heap[b]? = w.heap[b]?) : IsMap P k ek ev w' b l := by
  obtain ⟨D, ⟨es, clock, h1, h2⟩, hr⟩ := h
  exact ⟨D, ⟨es, clock, hb.trans h1, h2⟩, hr⟩
theorem IsMap.alloc (h : IsMap P k ek ev w b l) (o : Obj) : IsMap P k ek ev (w.alloc o) b l := h.kept (World.grownBy_alloc w o none) (by simp)
theorem IsMap.lt (h : IsMap P k ek ev w b l) : b < w.heap.size := h.choose_spec.1.lt
theorem IsMap.nodup (h : IsMap P k ek ev w b l) : (l.map (·.1)).Nodup := h.choose_spec.2.nodup
theorem IsMap.isMap (h : IsMap P k ek ev w b l) : ∃ es clock, w.heap[b]? = some (.map es clock) := by obtain ⟨D, ⟨es, clock, h1, _⟩, _⟩ := h; exact ⟨es, clock, h1⟩
theorem IsMap.ne_cells (h : IsMap P k ek ev w b l) {g : Nat} {cs : Array Value} {t : TypeId} {fr : Nat × Nat} (hg : w.heap[g]? = some (.cells cs t fr)) : b ≠ g := by
  obtain ⟨es, clock, h1⟩ := h.isMap
  rintro rfl
  rw [h1] at hg; cases hg
theorem IsMap.set (h : IsMap P k ek ev w b l) {a : Addr} (ha : b ≠ a.block) (u : Value) : IsMap P k ek ev (w.setCell a u) b l := h.heap (Below.heap_setCell _ _ _ _ ha)
end

/-! ### The laws at the operations -/
section
variable {κ ν : Type} [DecidableEq κ] {ek : κ → Lit} {ev : ν → Value} {l : List (κ × ν)} {P : Program} {k e : TypeId} {b : Nat}
variable (w : World) {ops : Array Oper} {rest : List Oper} {o : Oper} {a : Act} {Q : Exit → Act → World → Prop}

/-- What a look-up hands over. -/
def valAt (ev : ν → Value) (z : Value) : Option ν → Value
  | some v => ev v
  | none => z

theorem IsMap.run_lookup {w : World} (h : IsMap P k ek ev w b l) (K : Keyed P k) {t : TypeId} (ht : P.underlying t = some (.map k e)) {z : Value} (hz : (zeroValue e).run P w = .ok z w) (x : κ) {key : Value} (hkey : keyOf P k key = some (ek x)) :
    (Instr.lookup t (.map (some b)) key false).run P w = .ok (valAt ev z (get l x)) w := by
  obtain ⟨D, ho, hr⟩ := h
  obtain ⟨v, ps, hrun, hv⟩ := ho.lookup K ht hz (zd := .held z) (zp := []) rfl hkey
  simp only [heldElem, Option.some.injEq, Prod.mk.injEq] at hv
  rw [hrun]
  congr 1
  cases hg : get l x with
  | none =>
    have hh := hr.has x
    rw [hg] at hh
    rw [Maps.atKey_of_not_has hh] at hv
    have := hv.1; injection this
  | some u =>
    rw [hr.at_ x u _ hg] at hv
    have := hv.1; injection this
theorem IsMap.run_lookup_ok {w : World} (h : IsMap P k ek ev w b l) (K : Keyed P k) {t : TypeId} (ht : P.underlying t = some (.map k e)) {z : Value} (hz : (zeroValue e).run P w = .ok z w) (x : κ) {key : Value} (hkey : keyOf P k key = some (ek x)) :
    (Instr.lookup t (.map (some b)) key true).run P w = .ok (.tuple #[valAt ev z (get l x), .bool (get l x).isSome]) w := by
  obtain ⟨D, ho, hr⟩ := h
  obtain ⟨v, ps, hrun, hv⟩ := ho.look_ok K ht hz (zd := .held z) (zp := []) rfl hkey
  simp only [heldElem, Option.some.injEq, Prod.mk.injEq] at hv
  rw [hrun, hr.has]
  congr 3
  cases hg : get l x with
  | none =>
    have hh := hr.has x
    rw [hg] at hh
    rw [Maps.atKey_of_not_has hh] at hv
    have := hv.1; injection this with this; rw [this]; rfl
  | some u =>
    rw [hr.at_ x u _ hg] at hv
    have := hv.1; injection this with this; rw [this]; rfl
theorem IsMap.run_len {w : World} (h : IsMap P k ek ev w b l) {t : TypeId} (ht : P.underlying t = some (.map k e)) (ty : TypeId) : (Builtin.len_ #[t] ty #[.map (some b)]).run P w = .ok (.int .i64 l.length) w := by
  obtain ⟨D, ho, hr⟩ := h
  rw [ho.len ht ty, hr.size]

theorem wpList_store_is (hg : o.guard = none) (m x v : Operand) (t : TypeId) (hop : o.op = Op.mapUpdate t m x v) (K : Keyed P k) (ht : P.underlying t = some (.map k e)) (hm : a.eval m = .map (some b))
    (h : IsMap P k ek ev w b l) (hn : l.length < maxLen) (hinj : ∀ x y, ek x = ek y → x = y) (hk : ∀ x, WideAt.IsKeyLit (ek x)) (y : κ) (u : ν) (hx : keyOf P k (a.eval x) = some (ek y)) (hv : a.eval v = ev u)
    (hK : ∀ w', IsMap P k ek ev w' b (setL l y u) → w.grownBy w' (some b) → wpList P ops Q rest (a.put o.dst undef) w') :
    wpList P ops Q (o :: rest) a w := by
  obtain ⟨D, ho, hr⟩ := h
  exact wpList_mapUpdate_own w hg m x v t hop k e K ht heldElem b l.length D hm ho hn _ _ (ek y) rfl hv hx (.held (ev u)) [] rfl fun w' h1 h2 => hK w' (IsMap.of h1 (hr.put (ho.tidy K) hinj hk y u)) h2
theorem wpList_delete_is (hg : o.guard = none) (m x : Operand) (t : TypeId) (hop : o.op = Op.call { callee := Callee.builtin Builtin.delete, args := #[m, x], argTypes := #[t, k] }) (K : Keyed P k) (ht : P.underlying t = some (.map k e))
    (hm : a.eval m = .map (some b)) (h : IsMap P k ek ev w b l) (hinj : ∀ x y, ek x = ek y → x = y) (y : κ) (hx : keyOf P k (a.eval x) = some (ek y))
    (hK : ∀ w', IsMap P k ek ev w' b (delL l y) → w.grownBy w' (some b) → wpList P ops Q rest (a.put o.dst (.tuple #[])) w') :
    wpList P ops Q (o :: rest) a w := by
  obtain ⟨D, ho, hr⟩ := h
  exact wpList_delete_own w hg m x t k hop e K ht heldElem b l.length D hm ho _ (ek y) rfl hx fun w' h1 h2 => hK w' (IsMap.of h1 (hr.del (ho.tidy K) hinj y)) h2.grown
theorem run_clear {w : World} (h : IsMap P k ek ev w b l) {t : TypeId} (ht : P.underlying t = some (.map k e)) (ty : TypeId) :
    ∃ w', (Builtin.clear_ #[t] ty #[.map (some b)]).run P w = .ok (.tuple #[]) w' ∧ IsMap P k ek ev w' b ([] : List (κ × ν)) ∧ w.grownBy w' (some b) := by
  obtain ⟨D, ⟨es, clock, hb, F, hs, hD⟩, hr⟩ := h
  refine ⟨setBlock w b (.map #[] clock), ?_, IsMap.of (n := 0) ⟨#[], clock, heap_setBlock_same hb _, ⟨by simp [maxLen], ⟨by simp, by simp, by simp⟩, by simp⟩, by simp, rfl⟩ rep_empty, ⟨rfl, rfl, rfl, by simp [setBlock], fun i _ hi => heap_setBlock_other hb _ (fun e => hi (by rw [e]))⟩⟩
  simp [Builtin.clear_, run_underlying ht, MapKept.run_getObj_map hb, run_setObj_map _ hb, Result.andThen, setBlock]
theorem wpList_clear_is (hg : o.guard = none) (m : Operand) (t : TypeId) (hop : o.op = Op.call { callee := Callee.builtin Builtin.clear, args := #[m], argTypes := #[t] }) (ht : P.underlying t = some (.map k e))
    (hm : a.eval m = .map (some b)) (h : IsMap P k ek ev w b l)
    (hK : ∀ w', IsMap P k ek ev w' b ([] : List (κ × ν)) → w.grownBy w' (some b) → wpList P ops Q rest (a.put o.dst (.tuple #[])) w') :
    wpList P ops Q (o :: rest) a w := by
  refine wpList_plain hg fun K' hK' => ?_
  obtain ⟨w', hrun, r1, r2⟩ := run_clear h ht o.type
  unfold Oper.wp
  simp [execOp, hop, resolve, invoke, builtin, hm, hrun, Result.andThen]
  exact hK' _ _ (hK w' r1 r2)

/-- A range over the map is under way: 'left': which keys are still to come. -/
def IsRange (P : Program) (k : TypeId) (ek : κ → Lit) (ev : ν → Value) (w : World) (b r : Nat) (l : List (κ × ν)) (left : Lit → Bool) : Prop :=
  ∃ D n cnt, w.ranges P k heldElem b r n D left cnt ∧ Rep ek ev D l
theorem IsRange.isMap {w : World} {r : Nat} {left : Lit → Bool} (h : IsRange P k ek ev w b r l left) : IsMap P k ek ev w b l := by
  obtain ⟨D, n, cnt, h, hr⟩ := h
  exact IsMap.of h.owns hr
theorem IsRange.kept {w w' : World} {r : Nat} {row : Option Nat} {left : Lit → Bool} (h : IsRange P k ek ev w b r l left) (hg : w.grownBy w' row) (h1 : some b ≠ row) (h2 : some r ≠ row) : IsRange P k ek ev w' b r l left := by
  obtain ⟨D, n, cnt, h, hr⟩ := h
  exact ⟨D, n, cnt, h.kept hg h1 h2, hr⟩
theorem wpList_range_is (hg : o.guard = none) (m : Operand) (t : TypeId) (hop : o.op = Op.range t m) (K : Keyed P k) (ht : P.underlying t = some (.map k e)) (hm : a.eval m = .map (some b)) (h : IsMap P k ek ev w b l)
    (hK : ∀ w' left, IsRange P k ek ev w' b w.heap.size l left → (∀ x, left (ek x) = (get l x).isSome) → w.grownBy w' none → w'.heap.size = w.heap.size + 1 → wpList P ops Q rest (a.put o.dst (.pointer (some ⟨w.heap.size, 0, none⟩))) w') :
    wpList P ops Q (o :: rest) a w := by
  obtain ⟨D, ho, hr⟩ := h
  exact wpList_range_own w hg m t hop k e K ht heldElem b l.length D hm ho fun w' h1 h2 h3 => hK w' (Maps.has D) ⟨D, _, _, h1, hr⟩ hr.has h2 h3
theorem wpList_next_is (hg : o.guard = none) (it : Operand) (hop : o.op = Op.next it false) (K : Keyed P k) (mkK : κ → Value) (invK : ∀ key kl, keyOf P k key = some kl → ∃ x, key = mkK x ∧ kl = ek x) {r : Nat} {left : Lit → Bool}
    (hit : a.eval it = .pointer (some ⟨r, 0, none⟩)) (h : IsRange P k ek ev w b r l left)
    (hDone : (∀ kl, left kl = false) → wpList P ops Q rest (a.put o.dst (.tuple #[.bool false])) w)
    (hMore : ∀ (x : κ) (v : ν) (w' : World), get l x = some v → left (ek x) = true → keyOf P k (mkK x) = some (ek x) → IsRange P k ek ev w' b r l (fun z => left z && !z.sameKey (ek x)) → w'.rangeLeft b r < w.rangeLeft b r →
      w.grownBy w' (some r) → w'.heap.size = w.heap.size → (Instr.entry (.pointer (some ⟨r, 0, none⟩))).run P w' = .ok (.tuple #[mkK x, ev v]) w' → wpList P ops Q rest (a.put o.dst (.tuple #[.bool true, mkK x, ev v])) w') :
    wpList P ops Q (o :: rest) a w := by
  obtain ⟨D, n, cnt, hrg, hr⟩ := h
  refine wpList_next_ranges w hg it hop k K heldElem mkK (fun c : Value => c) (fun key kl hk => by obtain ⟨x, hx, _⟩ := invK key kl hk; exact ⟨x, hx⟩) (fun v y _ => ⟨v, rfl⟩) b r n D left cnt hit hrg (fun _ hd => hDone hd) ?_
  intro x c kl y w' cnt' hkey hl hR hat hrg' hlt hgr hsz hen
  obtain ⟨x', hx, hkl⟩ := invK _ _ hkey
  simp only [heldElem, Option.some.injEq] at hR
  subst hR
  have hh : Maps.has D kl = true := Maps.has_true_of_atKey hat
  rw [hkl, hr.has] at hh
  obtain ⟨v, hv⟩ := Option.isSome_iff_exists.1 hh
  have h2 := hat (.nil)
  rw [hkl, hr.at_ x' v _ hv] at h2
  injection h2 with h2
  subst h2
  subst hkl
  rw [hx] at hen hkey ⊢
  have hll : w'.rangeLeft b r < w.rangeLeft b r := by rw [hrg'.left_eq, hrg.left_eq]; exact hlt
  exact hMore x' v w' hv hl hkey ⟨D, n, cnt', hrg', hr⟩ hll hgr hsz hen
theorem wpList_delete_range_is (hg : o.guard = none) (m x : Operand) (t : TypeId) (hop : o.op = Op.call { callee := Callee.builtin Builtin.delete, args := #[m, x], argTypes := #[t, k] }) (K : Keyed P k) (ht : P.underlying t = some (.map k e))
    (hm : a.eval m = .map (some b)) {r : Nat} {left : Lit → Bool} (h : IsRange P k ek ev w b r l left) (hinj : ∀ x y, ek x = ek y → x = y) (y : κ) (hx : keyOf P k (a.eval x) = some (ek y))
    (hK : ∀ w', IsRange P k ek ev w' b r (delL l y) (fun z => left z && !z.sameKey (ek y)) → w'.rangeLeft b r ≤ w.rangeLeft b r → w.grownBy w' (some b) → wpList P ops Q rest (a.put o.dst (.tuple #[])) w') :
    wpList P ops Q (o :: rest) a w := by
  obtain ⟨D, n, cnt, hrg, hr⟩ := h
  refine wpList_delete_ranges w hg m x t k hop e K ht heldElem b r n D left cnt hm hrg _ (ek y) rfl hx fun w' cnt' h1 h2 h3 => ?_
  exact hK w' ⟨_, n, cnt', h1, hr.del (hrg.owns.tidy K) hinj y⟩ (by rw [h1.left_eq, hrg.left_eq]; exact h2) h3.grown
end
end Go.Proofs.YtcongfiojbajeaaM
