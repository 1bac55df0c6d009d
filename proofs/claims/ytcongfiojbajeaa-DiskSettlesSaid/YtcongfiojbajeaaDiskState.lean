/- The disk's state: its files in a row that rises; what an operation may turn. Conditions: none. -/
import Derived.Test.YtcongfiojbajeaaDiskMove2
namespace Go.Proofs.YtcongfiojbajeaaK
open Go Go.RowKit Go.Maps Go.Proofs.YtcongfiojbajeaaM Go.Proofs.YtcongfiojbajeaaW.PrintWords Go.Proofs.YtcongfiojbajeaaN
variable {lo : Nat}
set_option linter.unusedVariables false
set_option linter.unusedSimpArgs false
/-! ### rows under a map of what stands there -/
section
variable {ν μ : Type}
def mapV (g : ν → μ) (l : List (ByteArray × ν)) : List (ByteArray × μ) := l.map fun p => (p.1, g p.2)
theorem mapV_get (g : ν → μ) (l : List (ByteArray × ν)) (x : ByteArray) : get (mapV g l) x = (get l x).map g := by
  induction l with
  | nil => rfl
  | cons p l ih =>
    show get ((p.1, g p.2) :: mapV g l) x = _
    rw [get_cons, get_cons, ih]
    by_cases h : p.1 = x
    · rw [if_pos h, if_pos h]; rfl
    · rw [if_neg h, if_neg h]
theorem mapV_putS (g : ν → μ) (l : List (ByteArray × ν)) (n : ByteArray) (v : ν) : mapV g (putS l n v) = putS (mapV g l) n (g v) := by
  induction l with
  | nil => rfl
  | cons p l ih =>
    show mapV g (putS (p :: l) n v) = putS ((p.1, g p.2) :: mapV g l) n (g v)
    simp only [putS]
    by_cases h1 : ltB p.1 n = true
    · rw [if_pos h1, if_pos h1, ← ih]; rfl
    · rw [if_neg h1, if_neg h1]
      by_cases h2 : p.1 = n
      · rw [if_pos h2, if_pos h2]; rfl
      · rw [if_neg h2, if_neg h2]; rfl
theorem mapV_delL (g : ν → μ) (l : List (ByteArray × ν)) (n : ByteArray) : mapV g (delL l n) = delL (mapV g l) n := by
  unfold mapV delL
  rw [List.filter_map]
  rfl
theorem mapV_keys (g : ν → μ) (l : List (ByteArray × ν)) : (mapV g l).map (·.1) = l.map (·.1) := by
  unfold mapV; rw [List.map_map]; rfl
theorem mapV_len (g : ν → μ) (l : List (ByteArray × ν)) : (mapV g l).length = l.length := List.length_map ..
theorem mapV_rises (g : ν → μ) (l : List (ByteArray × ν)) : Rises (mapV g l) ↔ Rises l := by
  unfold Rises mapV
  rw [List.pairwise_map]
theorem mapV_mapV {π : Type} (g : ν → μ) (k : μ → π) (l : List (ByteArray × ν)) : mapV k (mapV g l) = mapV (fun x => k (g x)) l := by
  unfold mapV; rw [List.map_map]; rfl
theorem putS_len {l : List (ByteArray × ν)} {n : ByteArray} {v : ν} : (putS l n v).length ≤ l.length + 1 := by
  induction l with
  | nil => simp [putS]
  | cons p l ih =>
    simp only [putS]
    split
    · simp only [List.length_cons]; omega
    · split <;> simp only [List.length_cons] <;> omega
theorem get_none_of_rises {l : List (ByteArray × ν)} {x : ByteArray} (h : ∀ p ∈ l, ltB x p.1 = true) : get l x = none := by
  cases hg : get l x with
  | none => rfl
  | some u =>
    have := h _ (get_mem hg)
    rw [ltB_irrefl] at this; cases this
/-- What stands at a name is taken out of the sum, what comes is put in. -/
theorem putS_sum (m : ByteArray × ν → Nat) {l : List (ByteArray × ν)} (hr : Rises l) (n : ByteArray) (v : ν) :
    ((putS l n v).map m).sum + (match get l n with | none => 0 | some u => m (n, u)) = (l.map m).sum + m (n, v) := by
  induction l with
  | nil => simp [putS, get_nil]
  | cons p l ih =>
    have h' := List.pairwise_cons.1 hr
    simp only [putS]
    by_cases h1 : ltB p.1 n = true
    · rw [if_pos h1, get_cons, if_neg (ltB_ne h1), List.map_cons, List.sum_cons, List.map_cons, List.sum_cons]
      have := ih h'.2
      omega
    · rw [if_neg h1]
      by_cases h2 : p.1 = n
      · have hp : m (n, p.2) = m p := by rw [← h2]
        rw [if_pos h2, get_cons, if_pos h2, List.map_cons, List.sum_cons, List.map_cons, List.sum_cons]
        show m (n, v) + _ + m (n, p.2) = _
        omega
      · have hnp : ltB n p.1 = true := by
          cases h3 : ltB n p.1 with
          | true => rfl
          | false => exact absurd (ltB_tri (by simpa using h1) h3) h2
        have hno : get (p :: l) n = none := get_none_of_rises (fun q hq => by
          rcases List.mem_cons.1 hq with rfl | hq
          · exact hnp
          · exact ltB_trans hnp (h'.1 q hq))
        rw [if_neg h2, hno, List.map_cons, List.sum_cons, List.map_cons, List.sum_cons]
        show m (n, v) + _ + 0 = _
        omega
theorem delL_sum (m : ByteArray × ν → Nat) {l : List (ByteArray × ν)} (hn : (l.map (·.1)).Nodup) (n : ByteArray) :
    ((delL l n).map m).sum + (match get l n with | none => 0 | some u => m (n, u)) = (l.map m).sum := by
  induction l with
  | nil => simp [delL, get_nil]
  | cons p l ih =>
    rw [List.map_cons, List.nodup_cons] at hn
    have ih := ih hn.2
    unfold delL at ih ⊢
    rw [List.filter_cons, get_cons]
    by_cases h : p.1 = n
    · have hno : get l n = none := by
        cases hg : get l n with
        | none => rfl
        | some u => exact absurd (List.mem_map.2 ⟨_, get_mem hg, rfl⟩) (h ▸ hn.1)
      rw [hno] at ih
      have hp : m (n, p.2) = m p := by rw [← h]
      rw [if_neg (by simp [h]), if_pos h, List.map_cons, List.sum_cons]
      show _ + m (n, p.2) = _
      simp only at ih
      omega
    · rw [if_pos (by simp [h]), if_neg h, List.map_cons, List.sum_cons, List.map_cons, List.sum_cons]
      omega
end
/-! ### the state -/
/-- A file's block, what it has, the value of its loose pieces. -/
structure FE where
  b : Nat
  f : PF
  v : Value
/-- A file of the row lies, its pieces are its own. -/
structure Own (lo : Nat) (w : World) (e : FE) : Prop where
  lies : Lies w e.b e.f e.v
  row : Kd.R kP 58 w 0 (fun _ => True) e.v e.f.loose
  low : lo ≤ e.b ∧ ∀ k, e.v.ownBlock = some k → lo ≤ k
structure IsDisk (lo : Nat) (w : World) (db mb : Nat) (L : List (ByteArray × FE)) (room : Int) (power : Bool) (next : Int) : Prop where
  obj : IsObj w db mb (mapV FE.b L) room power next
  rises : Rises L
  own : ∀ p ∈ L, Own lo w p.2
  apart : ∀ p ∈ L, ∀ q ∈ L, p.1 ≠ q.1 → p.2.b ≠ q.2.b ∧ NeRow p.2.v q.2.v
  low : lo ≤ db ∧ lo ≤ mb
/-- Blocks of the disk's kinds. -/
def Mine (lo : Nat) (w : World) (k : Nat) : Prop := lo ≤ k ∧ ((∃ es c, w.heap[k]? = some (.map es c)) ∨ ∃ cs t, w.heap[k]? = some (.cells cs t (0, 0)) ∧ (t = 61 ∨ t = 69 ∨ t = 58))
def Turned (lo : Nat) (w w' : World) : Prop := Turn (Mine lo w) w w'
theorem Turned.trans {a b c : World} (h : Turned lo a b) (k : Turned lo b c) : Turned lo a c :=
  ⟨k.os.trans h.os, k.tape.trans h.tape, k.output.trans h.output, Nat.le_trans h.size k.size, fun i hi hs => by
    have e := h.block i hi hs
    refine (k.block i (Nat.lt_of_lt_of_le hi h.size) fun hm => hs ?_).trans e
    unfold Mine at hm ⊢
    rw [e] at hm
    exact hm⟩
theorem Turned.refl (w : World) : Turned lo w w := Turn.refl _ w
theorem Turned.of_below {w w' : World} (h : Below w.heap.size w w') : Turned lo w w' := Turn.of_below h
/-- Rows of other kinds stay as they are. -/
theorem R_turned {α : Type} {d : Kd α} {e base : Nat} {ok : Nat → Prop} {w w' : World} {v : Value} {xs : List α} (h : d.R e w base ok v xs) (ht : ∀ q, q ∈ e :: d.E → q ≠ 61 ∧ q ≠ 69 ∧ q ≠ 58) (hT : Turned lo w w') : d.R e w' base ok v xs := by
  refine Kd.R_mono (Kd.R_step (Kd.R_bound h) fun k hk hlt => hT.block k hlt fun hm => ?_) (fun _ hk => hk.1)
  obtain ⟨_, _, _, q, hq, cells, hc⟩ := hk
  have hn := ht q hq
  rcases hm with ⟨_, ⟨es, c, h1⟩ | ⟨cs, t, h1, h2⟩⟩
  · rw [h1] at hc; cases hc
  · rw [h1] at hc
    injection hc with hc
    injection hc with _ hc
    subst hc
    rcases h2 with rfl | rfl | rfl
    · exact hn.1 rfl
    · exact hn.2.1 rfl
    · exact hn.2.2 rfl
section
variable {w w' : World} {db mb : Nat} {L : List (ByteArray × FE)} {room next : Int} {power : Bool}
theorem Own.file {e : FE} (h : Own lo w e) : IsFile w e.b e.f := by
  obtain ⟨A, c, hv, hle, hC⟩ := Kd.R_reads h.row
  exact ⟨A, c, hv ▸ h.lies, hC, hle⟩
/-- kP's rows have none inside: what is said of their blocks is said of the row's own one. -/
theorem kP_row {w : World} {base : Nat} {ok ok' : Nat → Prop} {v : Value} {l : List (ByteArray × Bool)} (h : Kd.R kP 58 w base ok v l) (hk : ∀ k, v.ownBlock = some k → ok' k) : Kd.R kP 58 w base ok' v l := ⟨hk, h.2⟩
theorem Own.stay {S : Nat → Prop} {e : FE} (h : Own lo w e) (hT : Turn S w w') (hb : ¬ S e.b) (hv : ∀ k, e.v.ownBlock = some k → ¬ S k) : Own lo w' e :=
  ⟨(hT.block _ (blk_lt h.lies) hb).trans h.lies, kP_row (ok := fun k => e.v.ownBlock = some k) (Kd.R_step (kP_row h.row (fun k hk => hk)) fun k hk hlt => hT.block k hlt (hv k hk)) (fun _ _ => trivial), h.low⟩
theorem Own.lt {e : FE} (h : Own lo w e) : ∀ k, e.v.ownBlock = some k → k < w.heap.size := Kd.R_lt h.row
theorem IsDisk.at (h : IsDisk lo w db mb L room power next) {n : ByteArray} {e : FE} (hg : get L n = some e) : Own lo w e := h.own _ (get_mem hg)
theorem IsDisk.names (h : IsDisk lo w db mb L room power next) (n : ByteArray) : get (mapV FE.b L) n = (get L n).map FE.b := mapV_get ..
/-- The disk's blocks by their kinds. -/
theorem mine_db (h : IsDisk lo w db mb L room power next) : Mine lo w db := ⟨h.low.1, .inr ⟨_, _, h.obj.cells, .inl rfl⟩⟩
theorem mine_mb (h : IsDisk lo w db mb L room power next) : Mine lo w mb := ⟨h.low.2, .inl h.obj.map.isMap⟩
theorem mine_fb {e : FE} (h : Own lo w e) : Mine lo w e.b := ⟨h.low.1, .inr ⟨_, _, h.lies, .inr (.inl rfl)⟩⟩
theorem mine_row {e : FE} (h : Own lo w e) : ∀ k, e.v.ownBlock = some k → Mine lo w k := fun k hk => by
  obtain ⟨cells, hc⟩ := Kd.R_typed h.row k hk
  exact ⟨h.low.2 k hk, .inr ⟨_, _, hc, .inr (.inr rfl)⟩⟩
theorem ne_db {e : FE} (h : IsObj w db mb (mapV FE.b L) room power next) (ho : Own lo w e) : e.b ≠ db ∧ e.b ≠ mb ∧ (∀ k, e.v.ownBlock = some k → k ≠ db ∧ k ≠ mb) ∧ ∀ k, e.v.ownBlock = some k → k ≠ e.b := by
  refine ⟨?_, ?_, fun k hk => ⟨?_, ?_⟩, fun k hk => ?_⟩
  · intro q
    have h1 := ho.lies
    rw [Lies, q, h.cells] at h1
    injection h1 with h1; injection h1 with _ h1; revert h1; decide
  · intro q
    exact h.map.ne_cells ho.lies q.symm
  · rintro rfl
    obtain ⟨cells, hc⟩ := Kd.R_typed ho.row k hk
    rw [h.cells] at hc
    injection hc with hc; injection hc with _ hc; revert hc; decide
  · rintro rfl
    obtain ⟨cells, hc⟩ := Kd.R_typed ho.row k hk
    exact h.map.ne_cells hc rfl
  · rintro rfl
    obtain ⟨cells, hc⟩ := Kd.R_typed ho.row _ hk
    have h1 := ho.lies
    rw [Lies, hc] at h1
    injection h1 with h1; injection h1 with _ h1; revert h1; decide
/-- The state behind an operation: one file is new or has turned, all others stay. -/
theorem IsDisk.rebuild {S : Nat → Prop} {L' : List (ByteArray × FE)} {room' next' : Int} {power' : Bool} (h : IsDisk lo w db mb L room power next) (hT : Turn S w w') (hO : IsObj w' db mb (mapV FE.b L') room' power' next') (hr : Rises L') (q : ByteArray × FE)
    (hm : ∀ p ∈ L', p = q ∨ (p ∈ L ∧ p.1 ≠ q.1 ∧ ¬ S p.2.b ∧ (∀ k, p.2.v.ownBlock = some k → ¬ S k) ∧ p.2.b ≠ q.2.b ∧ NeRow p.2.v q.2.v)) (hq : q ∈ L' → Own lo w' q.2) : IsDisk lo w' db mb L' room' power' next' := by
  refine ⟨hO, hr, fun p hp => ?_, fun p hp p' hp' hne => ?_, h.low⟩
  · rcases hm p hp with rfl | ⟨h1, _, h2, h3, _⟩
    · exact hq hp
    · exact (h.own p h1).stay hT h2 h3
  · rcases hm p hp with rfl | ⟨h1, _, _, _, h2, h3⟩
    · rcases hm p' hp' with rfl | ⟨h1', _, _, _, h2', h3'⟩
      · exact absurd rfl hne
      · exact ⟨fun e => h2' e.symm, fun k hk e => h3' k e hk⟩
    · rcases hm p' hp' with rfl | ⟨h1', _⟩
      · exact ⟨h2, h3⟩
      · exact h.apart p h1 p' h1' hne
theorem IsDisk.same {L' : List (ByteArray × FE)} {room' next' : Int} {power' : Bool} {S : Nat → Prop} (h : IsDisk lo w db mb L room power next) (hT : Turn S w w') (hS : ∀ k, S k → k = db ∨ k = mb) (hO : IsObj w' db mb (mapV FE.b L') room' power' next') (hr : Rises L') (hm : ∀ p ∈ L', p ∈ L) : IsDisk lo w' db mb L' room' power' next' := by
  refine ⟨hO, hr, fun p hp => ?_, fun p hp p' hp' hne => h.apart p (hm p hp) p' (hm p' hp') hne, h.low⟩
  have ho := h.own p (hm p hp)
  obtain ⟨a1, a2, a3, _⟩ := ne_db h.obj ho
  exact ho.stay hT (fun hs => (hS _ hs).elim a1 a2) (fun k hk hs => (hS _ hs).elim (a3 k hk).1 (a3 k hk).2)
theorem IsDisk.below (h : IsDisk lo w db mb L room power next) (hb : Below w.heap.size w w') : IsDisk lo w' db mb L room power next :=
  h.same (S := fun _ => False) ⟨hb.os, hb.tape, hb.output, hb.size, fun k hk _ => hb.block k hk⟩ (fun _ hs => hs.elim) (h.obj.below hb) h.rises (fun _ hp => hp)
end
/-! ### what is said of it -/
structure PD where
  files : List (ByteArray × PF)
  room : Int
  power : Bool
  next : Int
def IsD (lo : Nat) (w : World) (db : Nat) (σ : PD) : Prop := ∃ mb L, σ.files = mapV FE.f L ∧ IsDisk lo w db mb L σ.room σ.power σ.next
theorem IsD.below {w w' : World} {db : Nat} {σ : PD} (h : IsD lo w db σ) (hb : Below w.heap.size w w') : IsD lo w' db σ := by
  obtain ⟨mb, L, e, h⟩ := h
  exact ⟨mb, L, e, h.below hb⟩
def PD.used (σ : PD) : Nat := (σ.files.map fun p => p.2.now.size).sum
def PD.looseN (σ : PD) : Nat := (σ.files.map fun p => p.2.loose.length).sum
/-- How much there is, all in all: files, their bytes, their pieces. -/
def PD.mass (σ : PD) : Nat := (σ.files.map fun p => 1 + p.2.vol + p.2.loose.length).sum
structure PD.Fit (σ : PD) : Prop where
  mass : σ.mass ≤ 1000000
  room : σ.room ≤ 9223372036854775807
  next0 : 0 ≤ σ.next
  next1 : σ.next ≤ 1000000
theorem sum_mem {α : Type} (m : α → Nat) {l : List α} {x : α} (h : x ∈ l) : m x ≤ (l.map m).sum := by
  induction l with
  | nil => cases h
  | cons y l ih =>
    rw [List.map_cons, List.sum_cons]
    rcases List.mem_cons.1 h with rfl | h
    · omega
    · have := ih h; omega
theorem sum_len {α : Type} (m : α → Nat) (hm : ∀ x, 1 ≤ m x) (l : List α) : l.length ≤ (l.map m).sum := by
  induction l with
  | nil => simp
  | cons y l ih =>
    rw [List.map_cons, List.sum_cons, List.length_cons]
    have := hm y; omega
theorem PD.Fit.file {σ : PD} (h : σ.Fit) {p : ByteArray × PF} (hp : p ∈ σ.files) : p.2.vol ≤ 1000000 ∧ p.2.loose.length ≤ 1000000 := by
  have h1 := sum_mem (fun p : ByteArray × PF => 1 + p.2.vol + p.2.loose.length) hp
  have h2 := h.mass
  unfold PD.mass at h2
  omega
theorem PD.Fit.len {σ : PD} (h : σ.Fit) : σ.files.length ≤ 1000000 := by
  have h1 := sum_len (fun p : ByteArray × PF => 1 + p.2.vol + p.2.loose.length) (fun x => by omega) σ.files
  have h2 := h.mass
  unfold PD.mass at h2
  omega
end Go.Proofs.YtcongfiojbajeaaK
