/- The disk: Sync: the walk. Conditions: the state is small. -/
import Derived.Test.YtcongfiojbajeaaDiskPuts
namespace Go.Proofs.YtcongfiojbajeaaK
open Go Go.RowKit Go.Maps Go.Proofs.YtcongfiojbajeaaM Go.Proofs.YtcongfiojbajeaaW.PrintWords Go.Proofs.YtcongfiojbajeaaN
variable {lo : Nat}
set_option linter.unusedVariables false
set_option linter.unusedSimpArgs false
/-- A file of the row, made sure. -/
def FE.sure (e : FE) : FE := ⟨e.b, e.f.settled, .slice none 0 0⟩
/-- The row, where some are still to come. -/
def syn (L : List (ByteArray × FE)) (left : Lit → Bool) : List (ByteArray × FE) := L.map fun p => (p.1, if left (ekS p.1) = true then p.2 else p.2.sure)
theorem syn_b (L : List (ByteArray × FE)) (left : Lit → Bool) : mapV FE.b (syn L left) = mapV FE.b L := by
  unfold mapV syn
  rw [List.map_map]
  refine List.map_congr_left fun p _ => ?_
  show (p.1, FE.b (if _ then _ else _)) = _
  split <;> rfl
theorem syn_rises {L : List (ByteArray × FE)} (h : Rises L) (left : Lit → Bool) : Rises (syn L left) := by
  unfold Rises syn
  rw [List.pairwise_map]
  exact h
theorem syn_mem {L : List (ByteArray × FE)} {left : Lit → Bool} {p : ByteArray × FE} (h : p ∈ syn L left) : ∃ e, (p.1, e) ∈ L ∧ p.2 = if left (ekS p.1) = true then e else e.sure := by
  unfold syn at h
  obtain ⟨q, hq, rfl⟩ := List.mem_map.1 h
  exact ⟨q.2, hq, rfl⟩
theorem syn_in {L : List (ByteArray × FE)} {left : Lit → Bool} {x : ByteArray} {e : FE} (h : (x, e) ∈ L) : (x, if left (ekS x) = true then e else e.sure) ∈ syn L left := List.mem_map.2 ⟨(x, e), h, rfl⟩
theorem syn_start {L : List (ByteArray × FE)} {left : Lit → Bool} (hn : (L.map (·.1)).Nodup) (h : ∀ x, left (ekS x) = (get L x).isSome) : syn L left = L := by
  have : ∀ p ∈ L, (p.1, if left (ekS p.1) = true then p.2 else p.2.sure) = p := fun p hp => by rw [h, get_of_mem hn hp]; rfl
  unfold syn
  conv => rhs; rw [← List.map_id L]
  exact List.map_congr_left this
theorem syn_end (L : List (ByteArray × FE)) {left : Lit → Bool} (h : ∀ kl, left kl = false) : syn L left = mapV FE.sure L := by
  unfold syn mapV
  refine List.map_congr_left fun p _ => ?_
  rw [h]; rfl
theorem grown_of_turn {g : Nat} {w w' : World} (h : Turn (fun k => k = g) w w') : w.grownBy w' (some g) := ⟨h.os, h.tape, h.output, h.size, fun i hi hne => h.block i hi (fun e => hne (by rw [e]))⟩
section
variable {w : World} {db mb : Nat} {L : List (ByteArray × FE)} {room next : Int} {power : Bool} {σ : PD}
theorem IsDisk.stay {S : Nat → Prop} {w' : World} (h : IsDisk lo w db mb L room power next) (hT : Turn S w w') (hdb : ¬ S db) (hmb : ¬ S mb) (hL : ∀ p ∈ L, ¬ S p.2.b ∧ ∀ k, p.2.v.ownBlock = some k → ¬ S k) : IsDisk lo w' db mb L room power next :=
  ⟨h.obj.kept (hT.block _ (blk_lt h.obj.cells) hdb) (hT.block _ h.obj.map.lt hmb), h.rises, fun p hp => (h.own p hp).stay hT (hL p hp).1 (hL p hp).2, h.apart, h.low⟩
/-- Some files were made sure, the others are still to come. -/
structure Syncing (lo : Nat) (w : World) (db mb : Nat) (L : List (ByteArray × FE)) (room : Int) (power : Bool) (next : Int) (left : Lit → Bool) (wr : World) : Prop where
  range : IsRange Try.prog 9 ekS evP wr mb w.heap.size (mapV FE.b L) left
  disk : IsDisk lo wr db mb (syn L left) room power next
  turned : Turned lo w wr
  size : w.heap.size < wr.heap.size
theorem syn_old (hD : IsDisk lo w db mb L room power next) {left : Lit → Bool} : ∀ p ∈ syn L left, p.2.b < w.heap.size ∧ ∀ k, p.2.v.ownBlock = some k → k < w.heap.size := by
  intro p hp
  obtain ⟨e, he, h2⟩ := syn_mem hp
  have ho := hD.own _ he
  rw [h2]
  split
  · exact ⟨blk_lt ho.lies, ho.lt⟩
  · exact ⟨blk_lt ho.lies, fun k hk => by simp [FE.sure, Value.ownBlock] at hk⟩
theorem Syncing.step {left : Lit → Bool} {wr w4 : World} {x : ByteArray} {e : FE} (hD : IsDisk lo w db mb L room power next) (h : Syncing lo w db mb L room power next left wr) (hge : get L x = some e) (hleft : left (ekS x) = true)
    (hR : IsRange Try.prog 9 ekS evP w4 mb w.heap.size (mapV FE.b L) (fun z => left z && !z.sameKey (ekS x))) (hg4 : wr.grownBy w4 (some w.heap.size)) :
    (Own lo w4 e ∧ IsDisk lo w4 db mb (syn L left) room power next) ∧ (∀ w5, Lies w5 e.b e.f.settled (.slice none 0 0) → Turn (fun k => k = e.b) w4 w5 → Syncing lo w db mb L room power next (fun z => left z && !z.sameKey (ekS x)) w5 ∧ w5.rangeLeft mb w.heap.size = w4.rangeLeft mb w.heap.size) := by
  have hT4 : Turn (fun k => k = w.heap.size) wr w4 := (Turn.refl _ wr).grown hg4 (fun k hk => by cases hk; rfl)
  have hD4 : IsDisk lo w4 db mb (syn L left) room power next := h.disk.stay hT4 (fun e => by have := blk_lt hD.obj.cells; omega) (fun e => by have := hD.obj.map.lt; omega) (fun p hp => by
    obtain ⟨h1, h2⟩ := syn_old hD p hp
    exact ⟨fun e => by omega, fun k hk e => by have := h2 k hk; omega⟩)
  have hx := syn_in (left := left) (get_mem hge)
  rw [hleft, if_pos rfl] at hx
  have hO4 := hD4.own _ hx
  have hDb : IsObj w4 db mb (mapV FE.b (syn L left)) room power next := hD4.obj
  obtain ⟨a1, a2, a3, a4⟩ := ne_db hD4.obj hO4
  refine ⟨⟨hO4, hD4⟩, fun w5 hl ht => ⟨⟨hR.kept (grown_of_turn ht) (fun e => a2 (by cases e; rfl)) (fun h5 => by have := blk_lt (hD.at hge).lies; have h6 := Option.some.inj h5; omega), ?_, ?_, Nat.lt_of_lt_of_le h.size (Nat.le_trans hg4.size ht.size)⟩, ?_⟩⟩
  · refine hD4.rebuild ht ?_ (syn_rises hD.rises _) (x, e.sure) (fun p hp => ?_) (fun _ => ⟨hl, Kd.R_nil _ _ _ _ _, hO4.low.1, fun k hk => by simp [FE.sure, Value.ownBlock] at hk⟩)
    · rw [syn_b] at hDb ⊢
      exact hDb.kept (ht.block _ (blk_lt hDb.cells) (fun e => a1 e.symm)) (ht.block _ hDb.map.lt (fun e => a2 e.symm))
    · obtain ⟨e', he', h2⟩ := syn_mem hp
      by_cases hpx : p.1 = x
      · refine .inl (Prod.ext hpx ?_)
        rw [hpx] at he'
        have h3 := get_of_mem hD.rises.nodup he'
        rw [hge] at h3
        have h3 : e' = e := (Option.some.inj h3).symm
        rw [h2, same_str, decide_eq_true hpx, h3]
        simp
      · have hs : (left (ekS p.1) && !(ekS p.1).sameKey (ekS x)) = left (ekS p.1) := by rw [same_str, decide_eq_false hpx]; simp
        simp only [hs] at h2
        have hp4 : p ∈ syn L left := by
          have := syn_in (left := left) he'
          rw [← h2] at this
          exact this
        obtain ⟨c1, c2⟩ := hD4.apart p hp4 (x, e) hx hpx
        have hop := hD4.own p hp4
        refine .inr ⟨hp4, hpx, c1, fun k hk he => ?_, c1, fun k hk h5 => by simp [FE.sure, Value.ownBlock] at h5⟩
        subst he
        obtain ⟨cells, hc⟩ := Kd.R_typed hop.row _ hk
        have h5 := hO4.lies
        rw [Lies, hc] at h5
        injection h5 with h5; injection h5 with _ h5; revert h5; decide
  · have hT5 : Turned lo w4 w5 := ht.mono (fun k e => e ▸ mine_fb hO4)
    have hT4' : Turned lo w w4 := ⟨hT4.os.trans h.turned.os, hT4.tape.trans h.turned.tape, hT4.output.trans h.turned.output, Nat.le_trans h.turned.size hT4.size, fun k hk hm => (hT4.block k (Nat.lt_of_lt_of_le hk h.turned.size) (fun e => by omega)).trans (h.turned.block k hk hm)⟩
    exact hT4'.trans hT5
  · unfold World.rangeLeft
    rw [ht.block _ hD4.obj.map.lt (fun e => a2 e.symm), ht.block _ (Nat.lt_of_lt_of_le h.size hg4.size) (fun h5 => by have := blk_lt (hD.at hge).lies; omega)]
set_option maxHeartbeats 2000000 in
set_option maxRecDepth 100000 in
theorem sync_any (hD : IsDisk lo w db mb L room true next) (hsm : ∀ p ∈ L, p.2.f.vol ≤ 1000000 ∧ p.2.f.loose.length ≤ 1000000) :
    Calls Try.prog 9 #[.pointer (some ⟨db, 0, none⟩)] w fun e w' => e = .returned (.int .i64 0) ∧ IsDisk lo w' db mb (mapV FE.sure L) room true next ∧ Turned lo w w' := by
  have x0 : w.cell? ⟨db, 0, none⟩ = some (.map (some mb)) := cell_in hD.obj.cells 0
  have HK := Lib.hid (dead_any hD.obj)
  have HD := Lib.hid hD
  have HV := Lib.hid hsm
  clear hD hsm
  go_enter Try.func9, Try.ntmps9
  go_wp2_with fail
  refine HK.out.mono ?_
  rintro e' w2 ⟨rfl, hw⟩
  subst hw
  go_wp2_with (first
    | (at_range; refine wpList_range_is _ rfl _ 59 rfl lawS Try.underlying59 rfl HD.out.obj.map ?_; intro w3 left hr3 hl3 hg3 hs3; have H3 := Lib.hid (And.intro hr3 (And.intro hl3 (And.intro hg3 hs3))); clear hr3 hl3 hg3 hs3)
    | go_in)
  have HR : Hid (Syncing lo w2 db mb L room true next left w3) := by
    obtain ⟨a1, a2, a3, a4⟩ := H3.out
    have hb : Below w2.heap.size w2 w3 := pw_below_grown (Below.refl _ _) none (Nat.le_refl _) a3 (by simp)
    refine ⟨a1, ?_, Turned.of_below hb, by omega⟩
    rw [syn_start HD.out.rises.nodup (fun x => by rw [a2 x, mapV_get, Option.isSome_map])]
    exact HD.out.below hb
  go_frame
  go_loopw [4] (fun _ wr => ∃ (left : Lit → Bool), Hid (Syncing lo w2 db mb L room true next left wr)) (fun _ wr => wr.rangeLeft mb w2.heap.size)
  case atStart => exact ⟨left, HR⟩
  case round =>
    obtain ⟨left, HL⟩ := hrel
    go_wp2_with (first
      | (at_next; refine wpList_next_is _ rfl _ rfl lawS Value.string keyS rfl HL.out.range ?_ ?_)
      | go_in)
    · intro hd
      have HE := Lib.hid (syn_end L hd)
      clear HR
      go_wp2
      go_ret
      exact ⟨rfl, by rw [← HE.out]; exact HL.out.disk, HL.out.turned⟩
    · intro x b w4 hget hleft hkey hR hlt hg4 hs4 hen
      obtain ⟨e, hge, rfl⟩ := names_get L hget
      obtain ⟨⟨ho4, hd4⟩, hstep⟩ := HL.out.step HD.out hge hleft hR hg4
      have HS := Lib.hid hstep
      have HLT := Lib.hid hlt
      obtain ⟨A, c, hv, hlc, hC⟩ := Kd.R_reads ho4.row
      have HSet := Lib.hid (settle_any e.b e.f A c w4 (hv ▸ ho4.lies) hC (Nat.le_trans (HV.out _ (get_mem hge)).1 (by decide)) (Nat.le_trans (HV.out _ (get_mem hge)).2 (by decide)))
      clear hget hge hleft hR hlt hg4 hs4 hv hC hlc HR ho4 hd4 hstep
      go_wp2_with fail
      refine HSet.out.mono ?_
      rintro e' w5 ⟨rfl, hl5, ht5⟩
      obtain ⟨h1, h2⟩ := HS.out w5 hl5 ht5
      have HR5 := Lib.hid h1
      have HLT5 := Lib.hid h2
      clear hl5 ht5 h1 h2
      go_wp2
      go_roundw
      case rel => exact ⟨_, HR5⟩
      case measure => rw [HLT5.out]; exact HLT.out
set_option maxRecDepth 100000 in
theorem sync_no (hD : IsDisk lo w db mb L room false next) :
    Calls Try.prog 9 #[.pointer (some ⟨db, 0, none⟩)] w fun e w' => e = .returned (.int .i64 7) ∧ w' = w := by
  have HK := Lib.hid (dead_any hD.obj)
  clear hD
  go_enter Try.func9, Try.ntmps9
  go_wp2_with fail
  refine HK.out.mono ?_
  rintro e' w2 ⟨rfl, hw⟩
  subst hw
  go_wp2
  go_ret
  exact ⟨rfl, rfl⟩
theorem sync_d (h : IsD lo w db σ) (hf : σ.Fit) : Calls Try.prog 9 #[.pointer (some ⟨db, 0, none⟩)] w fun e w' => e = .returned (.int .i64 σ.sync.2) ∧ IsD lo w' db σ.sync.1 ∧ Turned lo w w' := by
  obtain ⟨mb, L, hL, hD⟩ := h
  unfold PD.sync
  cases hpw : σ.power with
  | false =>
    rw [if_pos rfl]
    refine (sync_no (by rw [← hpw]; exact hD)).mono ?_
    rintro e w' ⟨he, rfl⟩
    exact ⟨he, ⟨mb, L, hL, hD⟩, Turned.refl _⟩
  | true =>
    rw [if_neg (by simp)]
    refine (sync_any (by rw [← hpw]; exact hD) (files_small hL hf)).mono ?_
    rintro e w' ⟨he, hd, ht⟩
    refine ⟨he, ⟨mb, _, ?_, hd⟩, ht⟩
    show mapV PF.settled σ.files = _
    rw [hL, mapV_mapV, mapV_mapV]
    rfl
end
end Go.Proofs.YtcongfiojbajeaaK
