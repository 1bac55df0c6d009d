/- The disk's methods over its state: New, Dead, Read, Remove, Truncate, Move, Changes, Room, Up. Conditions: the state is small (Fit), names are no longer than a text may be. -/
import Derived.Test.YtcongfiojbajeaaDiskState
namespace Go.Proofs.YtcongfiojbajeaaK
open Go Go.RowKit Go.Maps Go.Proofs.YtcongfiojbajeaaM Go.Proofs.YtcongfiojbajeaaW.PrintWords Go.Proofs.YtcongfiojbajeaaN
variable {lo : Nat}
set_option linter.unusedVariables false
set_option linter.unusedSimpArgs false
/-! ### a map's list in another order -/
section
variable {κ ν : Type} [DecidableEq κ]
theorem keys_mem {l : List (κ × ν)} {x : κ} : x ∈ l.map (·.1) ↔ (get l x).isSome = true := by
  rw [get_isSome, List.any_eq_true]
  constructor
  · intro h
    obtain ⟨p, hp, rfl⟩ := List.mem_map.1 h
    exact ⟨p, hp, by simp⟩
  · rintro ⟨p, hp, h⟩
    exact List.mem_map.2 ⟨p, hp, by simpa using h⟩
theorem same_len {l l' : List (κ × ν)} (hn : (l.map (·.1)).Nodup) (hn' : (l'.map (·.1)).Nodup) (hg : ∀ x, get l x = get l' x) : l.length = l'.length := by
  have hp : (l.map (·.1)).Perm (l'.map (·.1)) := (List.perm_ext_iff_of_nodup hn hn').2 fun x => by rw [keys_mem, keys_mem, hg]
  have := hp.length_eq
  rwa [List.length_map, List.length_map] at this
theorem isMap_same {P : Program} {k : TypeId} {ek : κ → Lit} {ev : ν → Value} {w : World} {b : Nat} {l l' : List (κ × ν)} (h : IsMap P k ek ev w b l) (hn : (l'.map (·.1)).Nodup) (hg : ∀ x, get l x = get l' x) : IsMap P k ek ev w b l' := by
  obtain ⟨D, ho, hr⟩ := h
  refine IsMap.of ho ⟨fun x => by rw [hr.has, hg], fun x v z hv => hr.at_ x v z (by rw [hg]; exact hv), ?_, hn⟩
  rw [hr.size]; exact same_len hr.nodup hn hg
end
theorem IsObj.same {w : World} {db mb : Nat} {l l' : List (ByteArray × Nat)} {room next : Int} {power : Bool} (h : IsObj w db mb l room power next) (hn : (l'.map (·.1)).Nodup) (hg : ∀ x, get l x = get l' x) : IsObj w db mb l' room power next := ⟨h.cells, isMap_same h.map hn hg⟩
theorem Rises.delL {ν : Type} {l : List (ByteArray × ν)} (h : Rises l) (n : ByteArray) : Rises (delL l n) := h.filter _
theorem mem_delL {ν : Type} {l : List (ByteArray × ν)} {n : ByteArray} {p : ByteArray × ν} (h : p ∈ delL l n) : p ∈ l ∧ p.1 ≠ n := by
  unfold Go.Proofs.YtcongfiojbajeaaM.delL at h
  obtain ⟨h1, h2⟩ := List.mem_filter.1 h
  exact ⟨h1, by simpa using h2⟩
theorem mem_putS {ν : Type} {l : List (ByteArray × ν)} (hr : Rises l) {n : ByteArray} {v : ν} {p : ByteArray × ν} (h : p ∈ putS l n v) : p = (n, v) ∨ (p ∈ l ∧ p.1 ≠ n) := by
  by_cases hn : p.1 = n
  · have h1 := get_of_mem (hr.putS n v).nodup h
    rw [hn, get_putS hr, if_pos rfl] at h1
    exact .inl (Prod.ext hn (Option.some.inj h1).symm)
  · rcases putS_mem h with rfl | h2
    · exact absurd rfl hn
    · exact .inr ⟨h2, hn⟩
/-! ### what the methods do to the state -/
/-- What 'there' tells. -/
noncomputable def PD.there (σ : PD) (s : ByteArray) : Int := if σ.power = false then 7 else if nm s = false then 60 else match get σ.files s with | none => 2 | some _ => 0
def PD.at (σ : PD) (s : ByteArray) : PF := (get σ.files s).getD ⟨ByteArray.empty, false, []⟩
noncomputable def PD.read (σ : PD) (s : ByteArray) : ByteArray × Int := if σ.there s = 0 then ((σ.at s).now, 0) else (ByteArray.empty, σ.there s)
noncomputable def PD.cut (σ : PD) (s : ByteArray) (m : Int) (gone : Bool) : PD × Int :=
  if σ.there s = 0 then
    if gone = true then ({ σ with files := delL σ.files s, next := σ.next + 1 }, 0)
    else if m < 0 ∨ ((σ.at s).now.size : Int) < m then (σ, 1)
    else ({ σ with files := putS σ.files s ⟨(σ.at s).now.extract 0 m.toNat, true, []⟩, next := σ.next + 1 }, 0)
  else (σ, σ.there s)
noncomputable def PD.move (σ : PD) (s t : ByteArray) : PD × Int :=
  if σ.there s = 0 then
    if nm t = false then (σ, 60) else if s = t then (σ, 1)
    else ({ σ with files := delL (putS σ.files t (σ.at s).settled) s, next := σ.next + 1 }, 0)
  else (σ, σ.there s)
section
variable {w : World} {db mb : Nat} {σ : PD} {L : List (ByteArray × FE)}
theorem files_get (hL : σ.files = mapV FE.f L) (s : ByteArray) : get σ.files s = (get L s).map FE.f := by rw [hL, mapV_get]
theorem at_some (hL : σ.files = mapV FE.f L) {s : ByteArray} {e : FE} (hg : get L s = some e) : σ.at s = e.f := by
  unfold PD.at; rw [files_get hL, hg]; rfl
theorem file_mem (hL : σ.files = mapV FE.f L) {s : ByteArray} {e : FE} (hg : get L s = some e) : (s, e.f) ∈ σ.files := by
  rw [hL]; exact List.mem_map.2 ⟨(s, e), get_mem hg, rfl⟩
theorem there_cases (hL : σ.files = mapV FE.f L) (s : ByteArray) :
    (∃ n : Int, (n = 7 ∨ n = 60 ∨ n = 2) ∧ thereA (mapV FE.b L) σ.power s = .tuple #[.pointer none, .int .i64 n] ∧ σ.there s = n ∧ ¬ σ.there s = 0) ∨
    (∃ e, get L s = some e ∧ thereA (mapV FE.b L) σ.power s = .tuple #[.pointer (some ⟨e.b, 0, none⟩), .int .i64 0] ∧ σ.there s = 0 ∧ nm s = true) := by
  unfold PD.there thereA
  rw [files_get hL, mapV_get]
  by_cases h1 : σ.power = false
  · rw [if_pos h1, if_pos h1]; exact .inl ⟨7, by omega, rfl, rfl, by omega⟩
  · rw [if_neg h1, if_neg h1]
    by_cases h2 : nm s = false
    · rw [if_pos h2, if_pos h2]; exact .inl ⟨60, by omega, rfl, rfl, by omega⟩
    · rw [if_neg h2, if_neg h2]
      cases hg : get L s with
      | none => exact .inl ⟨2, by omega, rfl, rfl, by simp⟩
      | some e => exact .inr ⟨e, rfl, rfl, rfl, by simpa using h2⟩
theorem new_d (w : World) (hlo : lo ≤ w.heap.size) : Calls Try.prog 18 #[] w fun e w' => e = .returned (.pointer (some ⟨w.heap.size + 1, 0, none⟩)) ∧ IsD lo w' (w.heap.size + 1) ⟨[], -1, true, 0⟩ ∧ Below w.heap.size w w' := by
  refine (new_any w).mono ?_
  rintro e w' ⟨he, hO, hb⟩
  exact ⟨he, ⟨w.heap.size, [], rfl, ⟨hO, List.Pairwise.nil, fun p hp => (by cases hp), fun p hp => (by cases hp), by omega, hlo⟩⟩, hb⟩
theorem dead_d (h : IsD lo w db σ) : Calls Try.prog 24 #[.pointer (some ⟨db, 0, none⟩)] w fun e w' => e = .returned (.bool (!σ.power)) ∧ w' = w := by
  obtain ⟨mb, L, hL, hD⟩ := h
  exact dead_any hD.obj
theorem changes_d (h : IsD lo w db σ) : Calls Try.prog 33 #[.pointer (some ⟨db, 0, none⟩)] w fun e w' => e = .returned (.int .i64 σ.next) ∧ w' = w := by
  obtain ⟨mb, L, hL, hD⟩ := h
  exact changes_any hD.obj
theorem turned_db {mb : Nat} {w' : World} {L : List (ByteArray × FE)} {room next : Int} {power : Bool} (h : IsDisk lo w db mb L room power next) (hT : Turn (fun k => k = db) w w') : Turned lo w w' := hT.mono (fun k e => e ▸ mine_db h)
theorem room_d (h : IsD lo w db σ) (n : Int) : Calls Try.prog 20 #[.pointer (some ⟨db, 0, none⟩), .int .i64 n] w fun e w' => e = .returned (.tuple #[]) ∧ IsD lo w' db { σ with room := n } ∧ Turned lo w w' := by
  obtain ⟨mb, L, hL, hD⟩ := h
  refine (room_any hD.obj n).mono ?_
  rintro e w' ⟨he, hO, hT⟩
  exact ⟨he, ⟨mb, L, hL, hD.same hT (fun k e => .inl e) hO hD.rises (fun _ hp => hp)⟩, turned_db hD hT⟩
theorem up_d (h : IsD lo w db σ) : Calls Try.prog 13 #[.pointer (some ⟨db, 0, none⟩)] w fun e w' => e = .returned (.bool (!σ.power)) ∧ IsD lo w' db { σ with power := true } ∧ Turned lo w w' := by
  obtain ⟨mb, L, hL, hD⟩ := h
  refine (up_any hD.obj).mono ?_
  rintro e w' ⟨he, hO, hT⟩
  exact ⟨he, ⟨mb, L, hL, hD.same hT (fun k e => .inl e) hO hD.rises (fun _ hp => hp)⟩, turned_db hD hT⟩
theorem read_d (h : IsD lo w db σ) (hf : σ.Fit) (s : ByteArray) (hs : s.size ≤ 9223372036854775807) :
    Calls Try.prog 14 #[.pointer (some ⟨db, 0, none⟩), .string s] w fun e w' => e = .returned (.tuple #[.string (σ.read s).1, .int .i64 (σ.read s).2]) ∧ Below w.heap.size w w' := by
  obtain ⟨mb, L, hL, hD⟩ := h
  refine (read_any hD.obj (fun _ => σ.at s) s hs fun b hb => ?_).mono ?_
  · rw [mapV_get] at hb
    obtain ⟨e, hg, rfl⟩ := Option.map_eq_some_iff.1 hb
    rw [at_some hL hg]
    have h1 := hf.file (file_mem hL hg)
    exact ⟨(hD.at hg).file, by have := h1.1; simp only at this; omega, by have := h1.2; simp only at this; omega⟩
  · rintro e w' ⟨he, hb⟩
    refine ⟨?_, hb⟩
    rw [he]
    congr 1
    unfold readA PD.read PD.there
    rw [files_get hL, mapV_get]
    by_cases h1 : σ.power = false
    · rw [if_pos h1, if_pos h1]; rfl
    · rw [if_neg h1, if_neg h1]
      by_cases h2 : nm s = false
      · rw [if_pos h2, if_pos h2]; rfl
      · rw [if_neg h2, if_neg h2]
        cases hg : get L s <;> rfl
theorem remove_d (h : IsD lo w db σ) (hf : σ.Fit) (s : ByteArray) (hs : s.size ≤ 9223372036854775807) (m : Int) :
    Calls Try.prog 42 #[.pointer (some ⟨db, 0, none⟩), .string s] w fun e w' => e = .returned (.int .i64 (σ.cut s m true).2) ∧ IsD lo w' db (σ.cut s m true).1 ∧ Turned lo w w' := by
  obtain ⟨mb, L, hL, hD⟩ := h
  unfold PD.cut
  rcases there_cases hL s with ⟨n, hn, ht, e1, e2⟩ | ⟨e, hg, ht, e1, _⟩
  · rw [if_neg e2]
    refine (remove_no hD.obj s hs n hn ht).mono ?_
    rintro e w' ⟨he, rfl⟩
    exact ⟨by rw [he, e1], ⟨mb, L, hL, hD⟩, Turned.refl _⟩
  · rw [if_pos e1, if_pos rfl]
    refine (remove_yes hD.obj hf.next0 (by have := hf.next1; omega) s hs e.b ht).mono ?_
    rintro e' w' ⟨he, hO, hT⟩
    rw [← mapV_delL] at hO
    refine ⟨he, ⟨mb, delL L s, ?_, hD.same hT (fun k e => e) hO (hD.rises.delL s) (fun p hp => (mem_delL hp).1)⟩, hT.mono (fun k e => ?_)⟩
    · show delL σ.files s = _
      rw [hL, mapV_delL]
    · rcases e with rfl | rfl
      · exact mine_db hD
      · exact mine_mb hD
/-- Where an array of pieces lies, as the elder contracts ask it. -/
theorem Own.away {e : FE} {S : Nat → Prop} (h : Own lo w e) (hS : ∀ k, e.v.ownBlock = some k → ¬ S k) {A : Option Addr} {n c : Nat} (hv : e.v = .slice A n c) : ∀ ad, A = some ad → 0 < n → ¬ S ad.block := by
  rintro ad rfl hn
  exact hS ad.block (by rw [hv]; simp [Value.ownBlock])
theorem trunc_d (h : IsD lo w db σ) (hf : σ.Fit) (s : ByteArray) (hs : s.size ≤ 9223372036854775807) (m : Int) :
    Calls Try.prog 11 #[.pointer (some ⟨db, 0, none⟩), .string s, .int .i64 m] w fun e w' => e = .returned (.int .i64 (σ.cut s m false).2) ∧ IsD lo w' db (σ.cut s m false).1 ∧ Turned lo w w' := by
  obtain ⟨mb, L, hL, hD⟩ := h
  unfold PD.cut
  rcases there_cases hL s with ⟨n, hn, ht, e1, e2⟩ | ⟨e, hg, ht, e1, _⟩
  · rw [if_neg e2]
    refine (trunc_no hD.obj s hs m n hn ht).mono ?_
    rintro e w' ⟨he, rfl⟩
    exact ⟨by rw [he, e1], ⟨mb, L, hL, hD⟩, Turned.refl _⟩
  · rw [if_pos e1, if_neg (by simp), at_some hL hg]
    have ho := hD.at hg
    have h1 := hf.file (file_mem hL hg)
    simp only at h1
    obtain ⟨a1, a2, a3, a4⟩ := ne_db hD.obj ho
    by_cases hm : m < 0 ∨ (e.f.now.size : Int) < m
    · rw [if_pos hm]
      refine (trunc_out hD.obj s hs m e.b e.f ht ho.file (by omega) (by omega) hm).mono ?_
      rintro e' w' ⟨he, hb⟩
      exact ⟨he, ⟨mb, L, hL, hD.below hb⟩, Turned.of_below hb⟩
    · rw [if_neg hm]
      obtain ⟨k, rfl⟩ : ∃ k : Nat, m = k := ⟨m.toNat, by omega⟩
      obtain ⟨A, c, hv, hle, hC⟩ := Kd.R_reads ho.row
      refine (trunc_yes hD.obj hf.next0 (by have := hf.next1; omega) s hs k e.b e.f ht A c (hv ▸ ho.lies) hC (ho.away (S := fun k => k = db) (fun k hk => (a3 k hk).1) hv) a1 a2 (by omega) (by omega) (by omega)).mono ?_
      rintro e' w' ⟨he, hO, hl, hT⟩
      have hgb : ∀ x, get (mapV FE.b L) x = get (mapV FE.b (putS L s ⟨e.b, ⟨e.f.now.extract 0 k, true, []⟩, .slice none 0 0⟩)) x := fun x => by
        rw [mapV_putS, get_putS ((mapV_rises _ _).2 hD.rises), mapV_get]
        by_cases hx : s = x
        · subst hx; rw [if_pos rfl, hg]; rfl
        · rw [if_neg hx]
      have hr := hD.rises.putS s (⟨e.b, ⟨e.f.now.extract 0 k, true, []⟩, .slice none 0 0⟩ : FE)
      refine ⟨he, ⟨mb, _, ?_, hD.rebuild hT (hO.same ((mapV_rises _ _).2 hr).nodup hgb) hr (s, ⟨e.b, ⟨e.f.now.extract 0 k, true, []⟩, .slice none 0 0⟩) (fun p hp => ?_) (fun _ => ⟨hl, Kd.R_nil _ _ _ _ _, ho.low.1, fun k hk => by simp [Value.ownBlock] at hk⟩)⟩, hT.mono (fun k e => ?_)⟩
      · show putS σ.files s _ = _
        rw [hL, mapV_putS]; rfl
      · rcases mem_putS hD.rises hp with hp | ⟨hp, hne⟩
        · exact .inl hp
        · obtain ⟨c1, c2⟩ := hD.apart p hp (s, e) (get_mem hg) hne
          obtain ⟨b1, b2, b3, b4⟩ := ne_db hD.obj (hD.own p hp)
          refine .inr ⟨hp, hne, fun hk => ?_, fun k hk hs => ?_, c1, fun k hk hn => by simp [Value.ownBlock] at hn⟩
          · rcases hk with hk | hk
            · exact b1 hk
            · exact c1 hk
          · rcases hs with hs | hs
            · exact (b3 k hk).1 hs
            · subst hs
              obtain ⟨cells, hc⟩ := Kd.R_typed (hD.own p hp).row _ hk
              have h2 := ho.lies
              rw [Lies, hc] at h2
              injection h2 with h2; injection h2 with _ h2; revert h2; decide
      · rcases e with rfl | rfl
        · exact mine_db hD
        · exact mine_fb ho
theorem move_d (h : IsD lo w db σ) (hf : σ.Fit) (s t : ByteArray) (hs : s.size ≤ 9223372036854775807) (hts : t.size ≤ 9223372036854775807) :
    Calls Try.prog 10 #[.pointer (some ⟨db, 0, none⟩), .string s, .string t] w fun e w' => e = .returned (.int .i64 (σ.move s t).2) ∧ IsD lo w' db (σ.move s t).1 ∧ Turned lo w w' := by
  obtain ⟨mb, L, hL, hD⟩ := h
  unfold PD.move
  rcases there_cases hL s with ⟨n, hn, ht, e1, e2⟩ | ⟨e, hg, ht, e1, hns⟩
  · rw [if_neg e2]
    refine (move_no hD.obj s t hs n hn ht).mono ?_
    rintro e w' ⟨he, rfl⟩
    exact ⟨by rw [he, e1], ⟨mb, L, hL, hD⟩, Turned.refl _⟩
  · rw [if_pos e1, at_some hL hg]
    have ho := hD.at hg
    have h1 := hf.file (file_mem hL hg)
    have h2 := hf.len
    rw [hL, mapV_len] at h2
    simp only at h1
    obtain ⟨a1, a2, a3, a4⟩ := ne_db hD.obj ho
    by_cases hnt : nm t = false
    · rw [if_pos hnt]
      refine (move_name hD.obj s t hs hts e.b ht hnt).mono ?_
      rintro e' w' ⟨he, rfl⟩
      exact ⟨he, ⟨mb, L, hL, hD⟩, Turned.refl _⟩
    · rw [if_neg hnt]
      by_cases hst : s = t
      · subst hst
        rw [if_pos rfl]
        refine (move_same hD.obj s hs e.b ht hns).mono ?_
        rintro e' w' ⟨he, rfl⟩
        exact ⟨he, ⟨mb, L, hL, hD⟩, Turned.refl _⟩
      · rw [if_neg hst]
        obtain ⟨A, c, hv, hle, hC⟩ := Kd.R_reads ho.row
        refine (move_yes hD.obj hf.next0 (by have := hf.next1; omega) (by rw [mapV_len]; exact h2) s t hs hts hst (by simpa using hnt) e.b e.f ht A c (hv ▸ ho.lies) hC (ho.away (S := fun k => k = db) (fun k hk => (a3 k hk).1) hv) a1 a2 (by omega) (by omega)).mono ?_
        rintro e' w' ⟨he, hO, hl, hT⟩
        have hr := (hD.rises.putS t (⟨e.b, e.f.settled, .slice none 0 0⟩ : FE)).delL s
        have hgb : ∀ x, get (delL (setL (mapV FE.b L) t e.b) s) x = get (mapV FE.b (delL (putS L t ⟨e.b, e.f.settled, .slice none 0 0⟩) s)) x := fun x => by
          rw [mapV_delL, mapV_putS, get_delL, get_delL, get_setL, get_putS ((mapV_rises _ _).2 hD.rises)]
        refine ⟨he, ⟨mb, _, ?_, hD.rebuild hT (hO.same ((mapV_rises _ _).2 hr).nodup hgb) hr (t, ⟨e.b, e.f.settled, .slice none 0 0⟩) (fun p hp => ?_) (fun _ => ⟨hl, Kd.R_nil _ _ _ _ _, ho.low.1, fun k hk => by simp [Value.ownBlock] at hk⟩)⟩, hT.mono (fun k e => ?_)⟩
        · show delL (putS σ.files t _) s = _
          rw [hL, mapV_delL, mapV_putS]
        · obtain ⟨hp, hps⟩ := mem_delL hp
          rcases mem_putS hD.rises hp with hp | ⟨hp, hne⟩
          · exact .inl hp
          · obtain ⟨c1, c2⟩ := hD.apart p hp (s, e) (get_mem hg) hps
            obtain ⟨b1, b2, b3, b4⟩ := ne_db hD.obj (hD.own p hp)
            refine .inr ⟨hp, hne, fun hk => ?_, fun k hk hs => ?_, c1, fun k hk hn => by simp [Value.ownBlock] at hn⟩
            · rcases hk with hk | hk | hk
              · exact b1 hk
              · exact c1 hk
              · exact b2 hk
            · rcases hs with hs | hs | hs
              · exact (b3 k hk).1 hs
              · subst hs
                obtain ⟨cells, hc⟩ := Kd.R_typed (hD.own p hp).row _ hk
                have h2 := ho.lies
                rw [Lies, hc] at h2
                injection h2 with h2; injection h2 with _ h2; revert h2; decide
              · exact (b3 k hk).2 hs
        · rcases e with rfl | rfl | rfl
          · exact mine_db hD
          · exact mine_fb ho
          · exact mine_mb hD
end
end Go.Proofs.YtcongfiojbajeaaK
