/- The disk: Crash: the walk. Conditions: the state is small; the numbers are ints. -/
import Derived.Test.YtcongfiojbajeaaDiskSync
namespace Go.Proofs.YtcongfiojbajeaaK
open Go Go.RowKit Go.Maps Go.Proofs.YtcongfiojbajeaaM Go.Proofs.YtcongfiojbajeaaW.PrintWords Go.Proofs.YtcongfiojbajeaaN
variable {lo : Nat}
set_option linter.unusedVariables false
set_option linter.unusedSimpArgs false
/-- What was gone over. -/
def gone (L : List (ByteArray × FE)) (left : Lit → Bool) : List (ByteArray × FE) := L.filter fun p => !left (ekS p.1)
theorem fall_at {L : List (ByteArray × FE)} (hr : Rises L) (keep torn : Int) (left : Lit → Bool) (y : ByteArray) :
    get (fallL keep torn (mapV FE.f (gone L left))) y = (get L y).bind fun e => if left (ekS y) = true then none else e.f.after keep torn := by
  have hg : Rises (gone L left) := hr.filter _
  rw [fallL_get ((mapV_rises _ _).2 hg).nodup, mapV_get]
  unfold gone
  rw [get_filter _ _ hr.nodup]
  cases get L y with
  | none => rfl
  | some e =>
    show Option.bind (Option.map FE.f (if (!left (ekS y)) = true then some e else none)) _ = if left (ekS y) = true then none else e.f.after keep torn
    cases left (ekS y) <;> rfl
theorem fall_rises {L : List (ByteArray × FE)} (hr : Rises L) (keep torn : Int) (left : Lit → Bool) : Rises (fallL keep torn (mapV FE.f (gone L left))) := fallL_rises ((mapV_rises _ _).2 (hr.filter _))
theorem left_at {left : Lit → Bool} {x y : ByteArray} (h : x ≠ y) : (left (ekS y) && !(ekS y).sameKey (ekS x)) = left (ekS y) := by rw [same_str, decide_eq_false (fun e => h e.symm)]; simp
theorem fall_none {L : List (ByteArray × FE)} (hr : Rises L) {keep torn : Int} {left : Lit → Bool} {x : ByteArray} {e : FE} (hge : get L x = some e) (hleft : left (ekS x) = true) (ha : e.f.after keep torn = none) :
    fallL keep torn (mapV FE.f (gone L (fun z => left z && !z.sameKey (ekS x)))) = fallL keep torn (mapV FE.f (gone L left)) := by
  refine rises_ext (fall_rises hr _ _ _) (fall_rises hr _ _ _) fun y => ?_
  rw [fall_at hr, fall_at hr]
  by_cases h : x = y
  · subst h
    rw [hge]
    show (if _ then none else e.f.after keep torn) = if left (ekS x) = true then none else e.f.after keep torn
    rw [ha]
    simp
  · simp only [left_at h]
theorem fall_some {L : List (ByteArray × FE)} (hr : Rises L) {keep torn : Int} {left : Lit → Bool} {x : ByteArray} {e : FE} {g : PF} (hge : get L x = some e) (hleft : left (ekS x) = true) (ha : e.f.after keep torn = some g) :
    fallL keep torn (mapV FE.f (gone L (fun z => left z && !z.sameKey (ekS x)))) = putS (fallL keep torn (mapV FE.f (gone L left))) x g := by
  refine rises_ext (fall_rises hr _ _ _) ((fall_rises hr _ _ _).putS _ _) fun y => ?_
  rw [fall_at hr, get_putS (fall_rises hr _ _ _), fall_at hr]
  by_cases h : x = y
  · subst h
    rw [hge, if_pos rfl]
    show (if (left (ekS x) && !(ekS x).sameKey (ekS x)) = true then none else e.f.after keep torn) = some g
    rw [same_str, decide_eq_true rfl, ha]
    simp
  · rw [if_neg h]
    simp only [left_at h]
theorem fall_start {L : List (ByteArray × FE)} (hr : Rises L) (keep torn : Int) {left : Lit → Bool} (h : ∀ x, left (ekS x) = (get L x).isSome) : fallL keep torn (mapV FE.f (gone L left)) = [] := by
  have : gone L left = [] := List.filter_eq_nil_iff.2 fun p hp => by rw [h, get_of_mem hr.nodup hp]; simp
  rw [this]; rfl
theorem fall_end (L : List (ByteArray × FE)) (keep torn : Int) {left : Lit → Bool} (h : ∀ kl, left kl = false) : fallL keep torn (mapV FE.f (gone L left)) = fallL keep torn (mapV FE.f L) := by
  have : gone L left = L := List.filter_eq_self.2 fun p _ => by rw [h]; rfl
  rw [this]
theorem fall_len (L : List (ByteArray × FE)) (keep torn : Int) (left : Lit → Bool) : (fallL keep torn (mapV FE.f (gone L left))).length ≤ L.length := by
  refine Nat.le_trans (List.length_filterMap_le _ _) ?_
  rw [mapV_len]
  exact List.length_filter_le _ _
section
variable {w : World} {db mb : Nat} {L : List (ByteArray × FE)} {room next : Int} {power : Bool} {σ : PD} {keep torn : Int}
/-- Some files have fallen into a new map, the others are still to come. -/
structure Crashing (lo : Nat) (w : World) (mb : Nat) (L : List (ByteArray × FE)) (keep torn : Int) (left : Lit → Bool) (M : List (ByteArray × FE)) (wr : World) : Prop where
  range : IsRange Try.prog 9 ekS evP wr mb (w.heap.size + 1) (mapV FE.b L) left
  below : Below w.heap.size w wr
  size : w.heap.size + 1 < wr.heap.size
  map : IsMap Try.prog 9 ekS evP wr w.heap.size (mapV FE.b M)
  rises : Rises M
  own : ∀ p ∈ M, Own lo wr p.2 ∧ w.heap.size + 1 < p.2.b ∧ p.2.v.ownBlock = none
  apart : ∀ p ∈ M, ∀ q ∈ M, p.1 ≠ q.1 → p.2.b ≠ q.2.b
  files : mapV FE.f M = fallL keep torn (mapV FE.f (gone L left))
theorem Crashing.len {left : Lit → Bool} {M : List (ByteArray × FE)} {wr : World} (h : Crashing lo w mb L keep torn left M wr) : M.length ≤ L.length := by
  have := fall_len L keep torn left
  rw [← h.files, mapV_len] at this
  exact this
/-- A round: the file that comes, behind the range's step. -/
theorem Crashing.step {left : Lit → Bool} {M : List (ByteArray × FE)} {wr w4 : World} {x : ByteArray} {e : FE} (hD : IsDisk lo w db mb L room power next) (h : Crashing lo w mb L keep torn left M wr) (hge : get L x = some e) (hleft : left (ekS x) = true)
    (hR : IsRange Try.prog 9 ekS evP w4 mb (w.heap.size + 1) (mapV FE.b L) (fun z => left z && !z.sameKey (ekS x))) (hg4 : wr.grownBy w4 (some (w.heap.size + 1))) :
    Own lo w4 e ∧ (∀ w5, Below w4.heap.size w4 w5 → IsMap Try.prog 9 ekS evP w5 w.heap.size (mapV FE.b M) ∧ w5.rangeLeft mb (w.heap.size + 1) = w4.rangeLeft mb (w.heap.size + 1)) ∧
    (∀ w5, Below w4.heap.size w4 w5 → e.f.after keep torn = none → Crashing lo w mb L keep torn (fun z => left z && !z.sameKey (ekS x)) M w5) ∧
    (∀ w5 w6 g b, Below w4.heap.size w4 w5 → e.f.after keep torn = some g → w4.heap.size ≤ b → Lies w5 b g (.slice none 0 0) → IsMap Try.prog 9 ekS evP w6 w.heap.size (setL (mapV FE.b M) x b) → w5.grownBy w6 (some w.heap.size) →
      Crashing lo w mb L keep torn (fun z => left z && !z.sameKey (ekS x)) (putS M x ⟨b, g, .slice none 0 0⟩) w6 ∧ w6.rangeLeft mb (w.heap.size + 1) = w4.rangeLeft mb (w.heap.size + 1)) := by
  have hmb : mb < w.heap.size := hD.obj.map.lt
  have hs4 := hg4.size
  have hsz := h.size
  have hB4 : Below w.heap.size w w4 := pw_below_grown h.below (some (w.heap.size + 1)) h.below.size hg4 (fun k hk => by cases hk; omega)
  have hM4 : IsMap Try.prog 9 ekS evP w4 w.heap.size (mapV FE.b M) := h.map.kept hg4 (fun e => by have := Option.some.inj e; omega)
  have hT4 : Turn (fun k => k = w.heap.size + 1) wr w4 := (Turn.refl _ wr).grown hg4 (fun k hk => by cases hk; rfl)
  have ho4 : ∀ p ∈ M, Own lo w4 p.2 := fun p hp => by
    obtain ⟨h1, h2, h3⟩ := h.own p hp
    exact h1.stay hT4 (fun e => by omega) (fun k hk => by rw [h3] at hk; cases hk)
  have stayB : ∀ {u v : World} (hb : Below u.heap.size u v) {p : FE} (ho : Own lo u p), Own lo v p := fun hb p ho => ho.stay (S := fun _ => False) ⟨hb.os, hb.tape, hb.output, hb.size, fun k hk _ => hb.block k hk⟩ (fun h => h) (fun _ _ h => h)
  have hM5 : ∀ w5, Below w4.heap.size w4 w5 → IsMap Try.prog 9 ekS evP w5 w.heap.size (mapV FE.b M) := fun w5 hb => hM4.kept (grown_of_below hb none) (by simp)
  have hL5 : ∀ w5, Below w4.heap.size w4 w5 → w5.rangeLeft mb (w.heap.size + 1) = w4.rangeLeft mb (w.heap.size + 1) := fun w5 hb => by
    unfold World.rangeLeft
    rw [hb.block mb (by omega), hb.block (w.heap.size + 1) (by omega)]
  refine ⟨stayB (pw_below_grown (Below.refl w.heap.size w) none (Nat.le_refl _) ⟨hB4.os, hB4.tape, hB4.output, hB4.size, fun i hi _ => hB4.block i hi⟩ (by simp)) (hD.at hge), fun w5 hb => ⟨hM5 w5 hb, hL5 w5 hb⟩, fun w5 hb ha => ?_, fun w5 w6 g b hb ha hb4 hl hm6 hg6 => ⟨?_, ?_⟩⟩
  · exact ⟨hR.kept (grown_of_below hb none) (by simp) (by simp), hB4.trans (hb.mono hB4.size), Nat.lt_of_lt_of_le (by omega) hb.size, hM5 w5 hb, h.rises, fun p hp => ⟨stayB hb (ho4 p hp), (h.own p hp).2⟩, h.apart, by rw [h.files, fall_none hD.rises hge hleft ha]⟩
  · have hs5 := hb.size
    have hT6 : Turn (fun k => k = w.heap.size) w5 w6 := (Turn.refl _ w5).grown hg6 (fun k hk => by cases hk; rfl)
    refine ⟨(hR.kept (grown_of_below hb none) (by simp) (by simp)).kept hg6 (fun e => by have := Option.some.inj e; omega) (fun e => by have := Option.some.inj e; omega), pw_below_grown (hB4.trans (hb.mono hB4.size)) (some w.heap.size) (Nat.le_trans hB4.size hs5) hg6 (fun k hk => by cases hk; exact Nat.le_refl _), Nat.lt_of_lt_of_le (by omega) hg6.size, ?_, h.rises.putS _ _, fun p hp => ?_, fun p hp q hq hne => ?_, ?_⟩
    · refine isMap_same hm6 ((mapV_rises _ _).2 (h.rises.putS _ _)).nodup fun y => ?_
      rw [mapV_putS, get_setL, get_putS ((mapV_rises _ _).2 h.rises)]
    · rcases mem_putS h.rises hp with rfl | ⟨hp, _⟩
      · exact ⟨(Own.stay (e := ⟨b, g, .slice none 0 0⟩) ⟨hl, by rw [(after_spec ha).2.1]; exact Kd.R_nil _ _ _ _ _, by have := hD.low.2; show lo ≤ b; omega, fun k hk => by simp [Value.ownBlock] at hk⟩ hT6 (fun e => by have : b = w.heap.size := e; omega) (fun k hk => by simp [Value.ownBlock] at hk)), by show w.heap.size + 1 < b; omega, rfl⟩
      · obtain ⟨_, h2, h3⟩ := h.own p hp
        exact ⟨(stayB hb (ho4 p hp)).stay hT6 (fun e => by omega) (fun k hk => by rw [h3] at hk; cases hk), h2, h3⟩
    · have old : ∀ p ∈ M, p.2.b < b := fun p hp => Nat.lt_of_lt_of_le (blk_lt (ho4 p hp).lies) hb4
      rcases mem_putS h.rises hp with rfl | ⟨hp, _⟩
      · rcases mem_putS h.rises hq with rfl | ⟨hq, _⟩
        · exact absurd rfl hne
        · have := old q hq
          show b ≠ q.2.b; omega
      · rcases mem_putS h.rises hq with rfl | ⟨hq, _⟩
        · have := old p hp
          show p.2.b ≠ b; omega
        · exact h.apart p hp q hq hne
    · rw [mapV_putS, h.files, fall_some hD.rises hge hleft ha]
  · have hs5 := hb.size
    rw [← hL5 w5 hb]
    unfold World.rangeLeft
    rw [hg6.block mb (by omega) (fun e => by have := Option.some.inj e; omega), hg6.block (w.heap.size + 1) (by omega) (fun e => by have := Option.some.inj e; omega)]
/-- The disk has the new map, and no power. -/
theorem Crashing.done {left : Lit → Bool} {M : List (ByteArray × FE)} {wr w' : World} (hD : IsDisk lo w db mb L room power next) (h : Crashing lo w mb L keep torn left M wr) (hcells : w'.heap[db]? = some (.cells #[.map (some w.heap.size), .int .i64 room, .bool false, .int .i64 next, .slice none 0 0] 61 (0, 0))) (hT : Turn (fun k => k = db) wr w') :
    IsDisk lo w' db w.heap.size M room false next ∧ Turned lo w w' := by
  have hdb : db < w.heap.size := blk_lt hD.obj.cells
  refine ⟨⟨⟨hcells, h.map.heap (hT.block _ h.map.lt (fun e => by omega))⟩, h.rises, fun p hp => ?_, fun p hp q hq hne => ⟨h.apart p hp q hq hne, fun k hk => ?_⟩, hD.low.1, by have := hD.low.2; have := hD.obj.map.lt; omega⟩, ?_⟩
  · obtain ⟨h1, h2, h3⟩ := h.own p hp
    exact h1.stay hT (fun e => by omega) (fun k hk => by rw [h3] at hk; cases hk)
  · rw [(h.own p hp).2.2] at hk; cases hk
  · exact ⟨hT.os.trans h.below.os, hT.tape.trans h.below.tape, hT.output.trans h.below.output, Nat.le_trans h.below.size hT.size, fun k hk hm => (hT.block k (Nat.lt_of_lt_of_le hk h.below.size) (fun e => hm (e ▸ mine_db hD))).trans (h.below.block k hk)⟩
set_option maxHeartbeats 2000000 in
set_option maxRecDepth 100000 in
theorem crash_any (hD : IsDisk lo w db mb L room true next) (hlen : L.length ≤ 1000000) (hsm : ∀ p ∈ L, p.2.f.vol ≤ 1000000 ∧ p.2.f.loose.length ≤ 1000000)
    (hk : -9223372036854775808 ≤ keep ∧ keep ≤ 9223372036854775807) (ht : -9223372036854775808 ≤ torn ∧ torn ≤ 9223372036854775807) :
    Calls Try.prog 12 #[.pointer (some ⟨db, 0, none⟩), .int .i64 keep, .int .i64 torn] w fun e w' => e = .returned (.tuple #[]) ∧ ∃ mb' M, mapV FE.f M = fallL keep torn (mapV FE.f L) ∧ IsDisk lo w' db mb' M room false next ∧ Turned lo w w' := by
  have HK := Lib.hid (dead_any hD.obj)
  have HD := Lib.hid hD
  have HV := Lib.hid hsm
  have HKT := Lib.hid (And.intro hk ht)
  obtain ⟨w1, hw1⟩ : ∃ w1, w.alloc (.map #[] 0) = w1 := ⟨_, rfl⟩
  have HB1 := Lib.hid (show Below w.heap.size w w1 by rw [← hw1]; exact (Below.refl _ _).alloc (Nat.le_refl _) _)
  have HM1 := Lib.hid (show IsMap Try.prog 9 ekS evP w1 w.heap.size (mapV FE.b []) by rw [← hw1]; exact IsMap.new w Try.prog 9)
  have hs1 : w1.heap.size = w.heap.size + 1 := by rw [← hw1]; simp
  have HD1 := Lib.hid (HD.out.below HB1.out)
  have x0 : w1.cell? ⟨db, 0, none⟩ = some (.map (some mb)) := cell_in HD1.out.obj.cells 0
  have hmm := @run_makeMap Try.prog
  clear hD hsm hk ht
  go_enter Try.func12, Try.ntmps12
  go_wp2_with fail
  refine HK.out.mono ?_
  rintro e' w2 ⟨rfl, hw⟩
  subst hw
  go_wp2_with (first
    | (at_range; refine wpList_range_is _ rfl _ 59 rfl lawS Try.underlying59 rfl HD1.out.obj.map ?_; intro w3 left hr3 hl3 hg3 hs3; have H3 := Lib.hid (And.intro hr3 (And.intro hl3 (And.intro hg3 hs3))); clear hr3 hl3 hg3 hs3)
    | go_in)
  have HR : Hid (Crashing lo w2 mb L keep torn left [] w3) := by
    obtain ⟨a1, a2, a3, a4⟩ := H3.out
    rw [hs1] at a1
    have hb : Below w1.heap.size w1 w3 := pw_below_grown (Below.refl _ _) none (Nat.le_refl _) a3 (by simp)
    refine ⟨a1, HB1.out.trans (hb.mono HB1.out.size), by omega, HM1.out.kept a3 (by simp), List.Pairwise.nil, fun p hp => (by cases hp), fun p hp => (by cases hp), ?_⟩
    rw [fall_start HD.out.rises keep torn (fun x => by rw [a2 x, mapV_get, Option.isSome_map])]
    rfl
  clear hw1
  rw [hs1]
  clear hs1
  go_frame
  go_loopw [7, 8, 9] (fun _ _ _ wr => ∃ (left : Lit → Bool) (M : List (ByteArray × FE)), Hid (Crashing lo w2 mb L keep torn left M wr)) (fun _ _ _ wr => wr.rangeLeft mb (w2.heap.size + 1))
  case atStart => exact ⟨left, [], HR⟩
  case round =>
    obtain ⟨left, M, HL⟩ := hrel
    go_wp2_with (first
      | (at_next; refine wpList_next_is _ rfl _ rfl lawS Value.string keyS (by rfl) HL.out.range ?_ ?_)
      | go_in)
    · intro hd
      have HE := Lib.hid (fall_end L keep torn hd)
      have hdb : db < w2.heap.size := blk_lt HD.out.obj.cells
      have HC := Lib.hid (show wr.heap[db]? = _ from (HL.out.below.block db hdb).trans HD.out.obj.cells)
      have c0 : wr.cell? ⟨db, 0, none⟩ = some (.map (some mb)) := cell_in HC.out 0
      have c2 : wr.cell? ⟨db, 2, none⟩ = some (.bool true) := cell_in HC.out 2
      have fz := free_in HC.out
      clear HR hdb
      go_wp2
      refine bodyPost_end (results_none rfl _ _ _) rfl ?_
      obtain ⟨r1, r2⟩ := HL.out.done (w' := (wr.setCell ⟨db, 0, none⟩ (.map (some w2.heap.size))).setCell ⟨db, 2, none⟩ (.bool false)) HD.out (blk_set (blk_set HC.out 0 _) 2 _) (Turn.setCell (S := fun k => k = db) (Turn.setCell (S := fun k => k = db) (Turn.refl _ wr) (p := ⟨db, 0, none⟩) rfl _) (p := ⟨db, 2, none⟩) rfl _)
      exact ⟨rfl, _, M, by rw [HL.out.files, HE.out], r1, r2⟩
    · intro x b w4 hget hleft hkey hR hlt hg4 hs4 hen
      obtain ⟨e, hge, rfl⟩ := names_get L hget
      obtain ⟨ho4, hst1, hst2, hst3⟩ := HL.out.step HD.out hge hleft hR hg4
      have HS1 := Lib.hid hst1
      have HS2 := Lib.hid hst2
      have HS3 := Lib.hid hst3
      have HLT := Lib.hid hlt
      have HLen := Lib.hid HL.out.len
      obtain ⟨A, c, hv, hlc, hC⟩ := Kd.R_reads ho4.row
      have HF := Lib.hid (fall_any e.b e.f A c keep torn w4 (hv ▸ ho4.lies) hC (Nat.le_trans (HV.out _ (get_mem hge)).1 (by decide)) (Nat.le_trans (HV.out _ (get_mem hge)).2 (by decide)) hlc HKT.out.1 HKT.out.2)
      have hM : M.length < maxLen := by have := HLen.out; unfold maxLen; omega
      clear hget hge hleft hR hlt hg4 hs4 hv hC hlc HR ho4 hst1 hst2 hst3
      go_wp2_with fail
      refine HF.out.mono ?_
      rintro e' w5 ⟨hb5, hyes, hno⟩
      cases hth : (e.f.fallen (e.f.kept keep) torn).there with
      | false =>
        obtain rfl := hno hth
        have ha : e.f.after keep torn = none := by unfold PF.after; rw [hth, if_neg (by simp)]
        have HR5 := Lib.hid (HS2.out w5 hb5 ha)
        have HLT5 := Lib.hid (HS1.out w5 hb5).2
        clear hyes hno hb5 hth ha
        go_wp2
        go_roundw
        case rel => exact ⟨_, M, HR5⟩
        case measure => rw [HLT5.out]; exact HLT.out
      | true =>
        obtain ⟨g, hg, rfl, hl⟩ := hyes hth
        have ha : e.f.after keep torn = some (e.f.fallen (e.f.kept keep) torn) := by unfold PF.after; rw [hth, if_pos rfl]
        have HM5 := Lib.hid (HS1.out w5 hb5).1
        have HN := Lib.hid (fun w6 h6 hg6 => HS3.out w5 w6 _ g hb5 ha hg hl h6 hg6)
        clear hyes hno hb5 hth ha hg hl
        go_wp2_with (first
          | (at_mapUpdate; refine wpList_store_is _ rfl _ _ _ 59 rfl lawS Try.underlying59 (by rfl) HM5.out (by rw [mapV_len]; exact hM) ekS_inj ekS_key x g hkey rfl ?_; intro w6 hm6 hg6; have H6 := Lib.hid (HN.out w6 hm6 hg6); clear hm6 hg6; go_frame)
          | go_in)
        go_roundw
        case rel => exact ⟨_, _, H6.out.1⟩
        case measure => rw [H6.out.2]; exact HLT.out
theorem crash_no (hD : IsDisk lo w db mb L room false next) (keep torn : Int) :
    Calls Try.prog 12 #[.pointer (some ⟨db, 0, none⟩), .int .i64 keep, .int .i64 torn] w fun e w' => e = .returned (.tuple #[]) ∧ w' = w := by
  have HK := Lib.hid (dead_any hD.obj)
  clear hD
  go_enter Try.func12, Try.ntmps12
  go_wp2_with fail
  refine HK.out.mono ?_
  rintro e' w2 ⟨rfl, hw⟩
  subst hw
  go_wp2
  refine bodyPost_ret (results_none rfl _ _ _) rfl ?_
  exact ⟨rfl, rfl⟩
theorem crash_d (h : IsD lo w db σ) (hf : σ.Fit) (hk : -9223372036854775808 ≤ keep ∧ keep ≤ 9223372036854775807) (ht : -9223372036854775808 ≤ torn ∧ torn ≤ 9223372036854775807) :
    Calls Try.prog 12 #[.pointer (some ⟨db, 0, none⟩), .int .i64 keep, .int .i64 torn] w fun e w' => e = .returned (.tuple #[]) ∧ IsD lo w' db (σ.crash keep torn) ∧ Turned lo w w' := by
  obtain ⟨mb, L, hL, hD⟩ := h
  unfold PD.crash
  cases hpw : σ.power with
  | false =>
    rw [if_pos rfl]
    refine (crash_no (by rw [← hpw]; exact hD) keep torn).mono ?_
    rintro e w' ⟨he, rfl⟩
    exact ⟨he, ⟨mb, L, hL, hD⟩, Turned.refl _⟩
  | true =>
    rw [if_neg (by simp)]
    refine (crash_any (by rw [← hpw]; exact hD) (by have := hf.len; rw [hL, mapV_len] at this; exact this) (files_small hL hf) hk ht).mono ?_
    rintro e w' ⟨he, mb', M, hM, hd, ht⟩
    refine ⟨he, ⟨mb', M, ?_, hd⟩, ht⟩
    show fallL keep torn σ.files = _
    rw [hL, hM]
end
end Go.Proofs.YtcongfiojbajeaaK
