/- The disk: put: the walk. Conditions: the state is small. -/
import Derived.Test.YtcongfiojbajeaaDiskLoose
import Derived.Deep.RegionLaw
import Derived.Deep.CutRange
import Derived.Deep.RegionHeld3
import Derived.Deep.AppendLies
namespace Go.Proofs.YtcongfiojbajeaaK
open Go Go.RowKit Go.Maps Go.Proofs.YtcongfiojbajeaaM Go.Proofs.YtcongfiojbajeaaW.PrintWords Go.Proofs.YtcongfiojbajeaaN
variable {lo : Nat}
set_option linter.unusedVariables false
set_option linter.unusedSimpArgs false
theorem infoP : (Try.prog.info? 58).map (fun i => (i.zero, i.size, i.bytes)) = some (some (.agg #[.string ByteArray.empty, .bool false]), 2, 24) := by kernel_rfl
section
variable {w : World} {db mb : Nat} {L : List (ByteArray × FE)} {room next : Int}
/-- A piece is put behind a file's: what stands then. -/
theorem appended {w6 W w7 : World} {e : FE} {p : ByteArray × Bool} {inner : List Value} {gg cap H : Nat} (ho : Own lo w6 e) (hin : w6.ownsRow 0 58 2 e.v e.f.loose.length inner) (hr : Reps (Kd.M kP w6 0 (fun k => True ∧ some k ≠ e.v.ownBlock)) 2 e.f.loose inner)
    (hW : Below w6.heap.size w6 W) (hown : w7.ownsRow 0 58 2 (.slice (some ⟨gg, 0, none⟩) (e.f.loose.length + 1) cap) (e.f.loose.length + 1) (inner ++ [.string p.1, .bool p.2])) (hg : W.grownBy w7 e.v.ownBlock) (hat : e.v.ownBlock = some gg ∨ gg = H) (hH : W.heap.size = H) :
    Own lo (w7.setCell ⟨e.b, 2, none⟩ (.slice (some ⟨gg, 0, none⟩) (e.f.loose.length + 1) cap)) ⟨e.b, e.f.put p, .slice (some ⟨gg, 0, none⟩) (e.f.loose.length + 1) cap⟩ ∧ Turn (fun k => k = e.b ∨ e.v.ownBlock = some k) w6 (w7.setCell ⟨e.b, 2, none⟩ (.slice (some ⟨gg, 0, none⟩) (e.f.loose.length + 1) cap)) := by
  have hne : some e.b ≠ e.v.ownBlock := Kd.R_ne ho.row ho.lies (by decide)
  have hlt : e.b < w6.heap.size := blk_lt ho.lies
  have h7 : w7.heap[e.b]? = some (.cells #[.string e.f.sure, .bool e.f.there, e.v] 69 (0, 0)) := (hg.block _ (Nat.lt_of_lt_of_le hlt hW.size) hne).trans ((hW.block _ hlt).trans ho.lies)
  have hT : Turn (fun k => k = e.b ∨ e.v.ownBlock = some k) w6 w7 := (Turn.of_below hW).grown hg (fun k hk => .inr hk)
  have hgb : gg ≠ e.b := by
    rintro rfl
    rcases hat with h | h
    · exact hne h.symm
    · have := hW.size; omega
  have hR : Kd.R kP 58 w7 0 (fun _ => True) (.slice (some ⟨gg, 0, none⟩) (e.f.loose.length + 1) cap) (e.f.loose ++ [p]) :=
    Kd.R_appended (d := kP) (W := W) (v := e.v) (cs := [.string p.1, .bool p.2]) (okp := fun _ => False) (fun _ _ => trivial) hr ⟨[.string p.1], [.bool p.2], rfl, rfl, rfl⟩ (fun _ h => h.elim) (fun _ _ => trivial) hown hg (hat.imp (fun h => h.symm) (fun h => ⟨gg, rfl, by omega⟩))
  refine ⟨⟨blk_set h7 2 _, ?_, ho.low.1, fun k hk => by
    have hk : gg = k := by simpa [Value.ownBlock] using hk
    subst hk
    rcases hat with h | h
    · exact ho.low.2 _ h
    · have := hW.size; have := ho.low.1; omega⟩, hT.setCell (p := ⟨e.b, 2, none⟩) (.inl rfl) _⟩
  exact kP_row (ok := fun k => k ≠ e.b) (Kd.R_far (p := ⟨e.b, 2, none⟩) (kP_row hR (fun k hk => by
    have : gg = k := by simpa [Value.ownBlock] using hk
    rw [← this]; exact hgb)) (fun k hk => hk) _) (fun _ _ => trivial)
theorem Turn.monoB {S T : Nat → Prop} {w w' : World} (h : Turn S w w') (hs : ∀ k, k < w.heap.size → S k → T k) : Turn T w w' := ⟨h.os, h.tape, h.output, h.size, fun k hk ht => h.block k hk (fun e => ht (hs k hk e))⟩
theorem put_end {S : Nat → Prop} {w8 w9 : World} {next' : Int} {power : Bool} (hD : IsDisk lo w db mb L room power next) (hT : Turn S w w8) (hO8 : IsObj w8 db mb (mapV FE.b L) room power next') (s : ByteArray) (q : FE) (hq : Own lo w8 q)
    (hS : ∀ k, k < w.heap.size → S k → k = db ∨ (∃ e, get L s = some e ∧ (k = e.b ∨ e.v.ownBlock = some k)))
    (hb : w.heap.size ≤ q.b ∨ ∃ e, get L s = some e ∧ q.b = e.b) (hv : ∀ k, q.v.ownBlock = some k → w.heap.size ≤ k ∨ ∃ e, get L s = some e ∧ e.v.ownBlock = some k)
    (hm : IsMap Try.prog 9 ekS evP w9 mb (setL (mapV FE.b L) s q.b)) (hg : w8.grownBy w9 (some mb)) : IsDisk lo w9 db mb (putS L s q) room power next' ∧ Turned lo w w9 := by
  have hT9 : Turn (fun k => k = db ∨ k = mb ∨ ∃ e, get L s = some e ∧ (k = e.b ∨ e.v.ownBlock = some k)) w w9 :=
    ((hT.monoB (T := fun k => k = db ∨ k = mb ∨ ∃ e, get L s = some e ∧ (k = e.b ∨ e.v.ownBlock = some k)) (fun k hk h => by
      rcases hS k hk h with h | h
      · exact .inl h
      · exact .inr (.inr h)))).grown hg (fun k hk => by cases hk; exact .inr (.inl rfl))
  have hne : mb ≠ db := hO8.map.ne_cells hO8.cells
  have hr := hD.rises.putS s q
  have hO9 : IsObj w9 db mb (mapV FE.b (putS L s q)) room power next' := by
    refine IsObj.same (l := setL (mapV FE.b L) s q.b) ⟨blk_grown hO8.cells hg (fun e => hne (by cases e; rfl)), hm⟩ ((mapV_rises _ _).2 hr).nodup fun x => ?_
    rw [mapV_putS, get_setL, get_putS ((mapV_rises _ _).2 hD.rises)]
  obtain ⟨q1, q2, q3, q4⟩ := ne_db hO8 hq
  have hq9 : Own lo w9 q := hq.stay (S := fun k => k = mb) ((Turn.refl _ w8).grown hg (fun k hk => by cases hk; rfl)) q2 (fun k hk => (q3 k hk).2)
  have typed : ∀ {p e : FE} (hp : Own lo w p) (he : Own lo w e), e.v.ownBlock ≠ some p.b := fun hp he h => Kd.R_ne he.row hp.lies (by decide) h.symm
  refine ⟨hD.rebuild hT9 hO9 hr (s, q) (fun p hp => ?_) (fun _ => hq9), hT9.mono (fun k hk => ?_)⟩
  · rcases mem_putS hD.rises hp with hp | ⟨hp, hps⟩
    · exact .inl hp
    · have ho := hD.own p hp
      obtain ⟨b1, b2, b3, b4⟩ := ne_db hD.obj ho
      have ap : ∀ e, get L s = some e → p.2.b ≠ e.b ∧ NeRow p.2.v e.v := fun e he => hD.apart p hp (s, e) (get_mem he) hps
      refine .inr ⟨hp, hps, ?_, fun k hk => ?_, ?_, fun k hk hk2 => ?_⟩
      · rintro (h | h | ⟨e, he, h | h⟩)
        · exact b1 h
        · exact b2 h
        · exact (ap e he).1 h
        · exact typed ho (hD.at he) h
      · rintro (h | h | ⟨e, he, h | h⟩)
        · exact (b3 k hk).1 h
        · exact (b3 k hk).2 h
        · exact typed (hD.at he) ho (h ▸ hk)
        · exact (ap e he).2 k hk h
      · rcases hb with h | ⟨e, he, h⟩
        · have := blk_lt ho.lies; show p.2.b ≠ q.b; omega
        · show p.2.b ≠ q.b; rw [h]; exact (ap e he).1
      · rcases hv k hk2 with h | ⟨e, he, h⟩
        · have := ho.lt k hk; omega
        · exact (ap e he).2 k hk h
  · rcases hk with rfl | rfl | ⟨e, he, rfl | h⟩
    · exact mine_db hD
    · exact mine_mb hD
    · exact mine_fb (hD.at he)
    · exact mine_row (hD.at he) k h
/-- A file to be put into, as the walk has it: an old one, or a new one. -/
structure PutAt (lo : Nat) (w wx : World) (L : List (ByteArray × FE)) (s : ByteArray) (p : ByteArray × Bool) (e : FE) : Prop where
  below : Below w.heap.size w wx
  box : wx.heap[w.heap.size]? = some (.cells #[.string p.1, .bool p.2] 58 (0, 0))
  own : Own lo wx e
  old : get L s = some e ∨ (get L s = none ∧ e.f = ⟨ByteArray.empty, false, []⟩ ∧ w.heap.size < e.b ∧ e.v.ownBlock = none)
theorem PutAt.later {w wx wy : World} {L : List (ByteArray × FE)} {s : ByteArray} {p : ByteArray × Bool} {e : FE} (h : PutAt lo w wx L s p e) (hb : Below wx.heap.size wx wy) : PutAt lo w wy L s p e :=
  ⟨h.below.trans (hb.mono h.below.size), (hb.block _ (blk_lt h.box)).trans h.box, h.own.stay (S := fun _ => False) ⟨hb.os, hb.tape, hb.output, hb.size, fun k hk _ => hb.block k hk⟩ (fun h => h) (fun _ _ h => h), h.old⟩
theorem PutAt.small {w wx : World} {L : List (ByteArray × FE)} {s : ByteArray} {p : ByteArray × Bool} {e : FE} (h : PutAt lo w wx L s p e) (hsm : ∀ p ∈ L, p.2.f.vol ≤ 1000000 ∧ p.2.f.loose.length ≤ 1000000) : e.f.vol ≤ 1000000 ∧ e.f.loose.length ≤ 1000000 := by
  rcases h.old with h | ⟨_, h, _⟩
  · exact hsm _ (get_mem h)
  · rw [h]; exact ⟨Nat.zero_le _, Nat.zero_le _⟩
/-- There is no room for so many bytes more. -/
def full (room : Int) (U : Nat) (old new : Nat) : Prop := (old : Int) < new ∧ 0 ≤ room ∧ room - (U : Int) < (new : Int) - (old : Int)
instance (room : Int) (U old new : Nat) : Decidable (full room U old new) := by unfold full; infer_instance
def fileAt (L : List (ByteArray × FE)) (s : ByteArray) : PF := ((get L s).map FE.f).getD ⟨ByteArray.empty, false, []⟩
theorem PutAt.file {w wx : World} {L : List (ByteArray × FE)} {s : ByteArray} {p : ByteArray × Bool} {e : FE} (h : PutAt lo w wx L s p e) : e.f = fileAt L s := by
  unfold fileAt
  rcases h.old with h | ⟨h, h2, _⟩
  · rw [h]; rfl
  · rw [h, h2]; rfl
theorem held_below {w0 W W' : World} {a : Addr} {v : Value} (hb : Below W.heap.size W W') (x : W.cell? a = some v) (h : Below w0.heap.size w0 W) : W'.cell? a = some v ∧ Below w0.heap.size w0 W' := by
  refine ⟨?_, h.trans (hb.mono h.size)⟩
  have hlt := World.block_lt_of_cell? W _ x
  unfold World.cell? at x ⊢
  rw [hb.block _ hlt]
  exact x
set_option maxHeartbeats 4000000 in
set_option maxRecDepth 100000 in
theorem put_any (hD : IsDisk lo w db mb L room true next) (h0 : 0 ≤ next) (h1 : next ≤ 1000000) (hroom : room ≤ 9223372036854775807) (hlen : L.length ≤ 1000000) (hsm : ∀ p ∈ L, p.2.f.vol ≤ 1000000 ∧ p.2.f.loose.length ≤ 1000000) (hsum : (L.map fun p => p.2.f.now.size).sum ≤ 1000000)
    (s : ByteArray) (hs : s.size ≤ 9223372036854775807) (hnm : nm s = true) (p : ByteArray × Bool) (hp : p.1.size ≤ 1000000) :
    Calls Try.prog 23 #[.pointer (some ⟨db, 0, none⟩), .string s, .agg #[.string p.1, .bool p.2]] w fun e' w' =>
      (full room ((L.map fun p => p.2.f.now.size).sum) (fileAt L s).now.size (onP (fileAt L s).now p).size → e' = .returned (.int .i64 61) ∧ Below w.heap.size w w') ∧
      (¬ full room ((L.map fun p => p.2.f.now.size).sum) (fileAt L s).now.size (onP (fileAt L s).now p).size → e' = .returned (.int .i64 0) ∧ ∃ b' v', IsDisk lo w' db mb (putS L s ⟨b', (fileAt L s).put p, v'⟩) room true (next + 1) ∧ Turned lo w w') := by
  obtain ⟨w1, hw1⟩ : ∃ w1, w.alloc (.cells #[.string p.1, .bool p.2] 58) = w1 := ⟨_, rfl⟩
  have HB1 := Lib.hid (show Below w.heap.size w w1 by rw [← hw1]; exact (Below.refl _ _).alloc (Nat.le_refl _) _)
  have HP1 := Lib.hid (show w1.heap[w.heap.size]? = some (.cells #[.string p.1, .bool p.2] 58 (0, 0)) by rw [← hw1]; exact alloc_at w _)
  have HD1 := Lib.hid (hD.below HB1.out)
  obtain ⟨pv, hpv⟩ : ∃ pv, valAt evP (.pointer none) (get (mapV FE.b L) s) = pv := ⟨_, rfl⟩
  have hlk : lookA (mapV FE.b L) true s = .tuple #[pv, .int .i64 0] := by
    unfold lookA; rw [if_neg (by simp), if_neg (by rw [hnm]; simp), hpv]
  have HK := Lib.hid (look_any HD1.out.obj s hs)
  rw [hlk] at HK
  rw [mapV_get] at hpv
  obtain ⟨b, hb⟩ : ∃ b : Bool, b = (get L s).isNone := ⟨_, rfl⟩
  have hq1 : ∀ (x y : Operand) (W : World), (eqGuard BinOp.eql 62 x y pv (.pointer none)).run Try.prog W = .ok () W := fun x y W => by
    rw [← hpv]
    cases get L s <;> rfl
  have hq2 : ∀ W : World, (binOp BinOp.eql 62 pv (.pointer none)).run Try.prog W = .ok (.bool b) W := fun W => by
    rw [← hpv, hb]
    cases get L s <;> rfl
  have HPV := Lib.hid (And.intro hpv hb)
  clear hb
  have HSm := Lib.hid hsm
  have HD := Lib.hid hD
  obtain ⟨f, hf⟩ : ∃ f, f = fileAt L s := ⟨_, rfl⟩
  rw [← hf]
  have HF := Lib.hid hf
  obtain ⟨U, hU⟩ : ∃ U, U = (L.map fun p => p.2.f.now.size).sum := ⟨_, rfl⟩
  rw [← hU] at hsum ⊢
  have HU := Lib.hid hU
  clear hD hlk hsm hf hU hpv
  go_enter Try.func23, Try.ntmps23
  go_wp2_with fail
  refine HK.out.mono ?_
  rintro e' w2 ⟨rfl, hw⟩
  subst hw
  go_upto_if 22 with fail
  go_cut [7] from 23 to 24 (fun u7 wx => ∃ e : FE, u7 = .pointer (some ⟨e.b, 0, none⟩) ∧ Hid (PutAt lo w wx L s p e))
  case first =>
    cases b with
    | true =>
      have hgn : get L s = none := by
        have := HPV.out.2
        cases hg : get L s with
        | none => rfl
        | some e => rw [hg] at this; cases this
      have HX := Lib.hid (show ∀ w', w2.alloc (.cells #[.string ByteArray.empty, .bool false, .slice none 0 0] 69) = w' → PutAt lo w w' L s p ⟨w2.heap.size, ⟨ByteArray.empty, false, []⟩, .slice none 0 0⟩ from fun w' h => by
        subst h
        exact ⟨HB1.out.alloc HB1.out.size _, (Below.heap_alloc w2 _ _ (blk_lt HP1.out)).trans HP1.out, ⟨alloc_at w2 _, Kd.R_nil _ _ _ _ _, Nat.le_trans HD1.out.low.1 (Nat.le_of_lt (blk_lt HD1.out.obj.cells)), fun k hk => by simp [Value.ownBlock] at hk⟩, .inr ⟨hgn, rfl, blk_lt HP1.out, rfl⟩⟩)
      clear hgn HPV
      go_wp2_with fail
      go_meet
      exact ⟨⟨w2.heap.size, ⟨ByteArray.empty, false, []⟩, .slice none 0 0⟩, rfl, HX.out _ rfl⟩
    | false =>
      obtain ⟨e, hge, rfl⟩ : ∃ e, get L s = some e ∧ pv = .pointer (some ⟨e.b, 0, none⟩) := by
        obtain ⟨h1, h2⟩ := HPV.out
        cases hg : get L s with
        | none => rw [hg] at h2; cases h2
        | some e => rw [hg] at h1; exact ⟨e, rfl, h1.symm⟩
      have HX := Lib.hid (show PutAt lo w w2 L s p e from ⟨HB1.out, HP1.out, HD1.out.at hge, .inl hge⟩)
      clear hge HPV
      go_wp2_with fail
      go_meet
      exact ⟨e, rfl, HX⟩
  case rest =>
    obtain ⟨e, rfl, HX⟩ := hcut
    obtain ⟨hve, hle⟩ := HX.out.small HSm.out
    obtain ⟨A, c, hv, hlc, hC⟩ := Kd.R_reads HX.out.own.row
    have HNow := Lib.hid (now_any e.b e.f A c wc (hv ▸ HX.out.own.lies) hC (Nat.le_trans hve (by decide)) (Nat.le_trans hle (by decide)))
    have hef : e.f = f := by rw [HX.out.file, HF.out]
    rw [hef] at HNow hve hle
    have hn0 : f.now.size ≤ 1000000 := Nat.le_trans f.now_size hve
    have hn1 : (onP f.now p).size ≤ 2000000 := by have := onP_size f.now p; omega
    have HS := Lib.hid (show f.now.size + p.1.size ≤ 1000000000 by omega)
    have HE := Lib.hid (And.intro hef hle)
    clear hq1 hq2 HPV HK hve hle hv hlc hC hef
    go_wp2_with fail
    refine HNow.out.mono ?_
    rintro e' w3 ⟨rfl, hb3⟩
    have HX3 := Lib.hid (HX.out.later hb3)
    have y0 : w3.cell? ⟨w.heap.size, 0, none⟩ = some (.string p.1) := cell_in HX3.out.box 0
    have y1 : w3.cell? ⟨w.heap.size, 1, none⟩ = some (.bool p.2) := cell_in HX3.out.box 1
    clear hb3 HNow
    go_wp2_with fail
    refine (on_any p f.now w3 HS.out).mono ?_
    rintro e' w4 ⟨rfl, hb4⟩
    have HX4 := Lib.hid (HX3.out.later hb4)
    clear hb4 y0 y1
    have HD4 := Lib.hid (HD.out.below HX4.out.below)
    go_upto_region 8 with fail
    go_cut [53] from 34 to 53 (fun u53 wx => u53 = .bool (decide (full room U f.now.size (onP f.now p).size)) ∧ Hid (Below w4.heap.size w4 wx))
    case first =>
      by_cases c1 : f.now.size < (onP f.now p).size
      · have d1 : decide (f.now.size < (onP f.now p).size) = true := decide_eq_true c1
        have yr : w4.cell? ⟨db, 1, none⟩ = some (.int .i64 room) := cell_in HD4.out.obj.cells 1
        by_cases c2 : 0 ≤ room
        · have d2 : decide (0 ≤ room) = true := decide_eq_true c2
          have HUsed := Lib.hid (show ∀ W, Below w4.heap.size w4 W → Calls Try.prog 17 #[.pointer (some ⟨db, 0, none⟩)] W fun e w' => e = .returned (.int .i64 (U : Nat)) ∧ Below W.heap.size W w' from fun W hW => by
            rw [HU.out]
            exact used_any (HD4.out.below hW) HSm.out (by rw [← HU.out]; exact hsum))
          have HW := Lib.hid (show IntKind.i64.wrap (room - (U : Int)) = room - (U : Int) by rw [IntKind.wrap_i64]; omega)
          have HC1 := Lib.hid c1
          clear c1
          by_cases c3 : room - (U : Int) < ((onP f.now p).size : Int) - (f.now.size : Int)
          · have HZ := Lib.hid (show decide (full room U f.now.size (onP f.now p).size) = true from decide_eq_true ⟨by have := HC1.out; omega, c2, c3⟩)
            have HD3 := Lib.hid (show decide (room - (U : Int) < ((onP f.now p).size : Int) - (f.now.size : Int)) = true from decide_eq_true c3)
            go_region_held3 (fun w' => w'.cell? ⟨db, 1, none⟩ = some (.int .i64 room) ∧ Below w4.heap.size w4 w')
              (first
                | exact ⟨yr, below_drew (Below.refl _ _)⟩
                | exact ⟨yr, pw_below_drewN (Below.refl _ _) _⟩
                | ((refine ⟨?_, ?_⟩) <;> assumption)
                | ((refine ⟨?_, pw_below_drewN ?_ _⟩) <;> assumption)
                | exact held_below hb5 yr (pw_below_drewN (Below.refl _ _) _)
                | ((refine held_below hb5 ?_ ?_) <;> assumption))
              (first
                | (go_at_call 17; refine (HUsed.out _ (pw_below_drewN (Below.refl _ _) _)).mono ?_; rintro e' w5 ⟨rfl, hb5⟩))
            have HB5 := Lib.hid (held_below hb5 yr (pw_below_drewN (Below.refl _ _) _)).2
            go_wp2_with fail
            go_meet
            exact ⟨by rw [HZ.out, HW.out, HD3.out], HB5⟩
          · have HZ := Lib.hid (show decide (full room U f.now.size (onP f.now p).size) = false from decide_eq_false (fun h => c3 h.2.2))
            have HD3 := Lib.hid (show decide (room - (U : Int) < ((onP f.now p).size : Int) - (f.now.size : Int)) = false from decide_eq_false c3)
            go_region_held3 (fun w' => w'.cell? ⟨db, 1, none⟩ = some (.int .i64 room) ∧ Below w4.heap.size w4 w')
              (first
                | exact ⟨yr, below_drew (Below.refl _ _)⟩
                | exact ⟨yr, pw_below_drewN (Below.refl _ _) _⟩
                | ((refine ⟨?_, ?_⟩) <;> assumption)
                | ((refine ⟨?_, pw_below_drewN ?_ _⟩) <;> assumption)
                | exact held_below hb5 yr (pw_below_drewN (Below.refl _ _) _)
                | ((refine held_below hb5 ?_ ?_) <;> assumption))
              (first
                | (go_at_call 17; refine (HUsed.out _ (pw_below_drewN (Below.refl _ _) _)).mono ?_; rintro e' w5 ⟨rfl, hb5⟩))
            have HB5 := Lib.hid (held_below hb5 yr (pw_below_drewN (Below.refl _ _) _)).2
            go_wp2_with fail
            go_meet
            exact ⟨by rw [HZ.out, HW.out, HD3.out], HB5⟩
        · have d2 : decide (0 ≤ room) = false := decide_eq_false c2
          have HZ := Lib.hid (show decide (full room U f.now.size (onP f.now p).size) = false from decide_eq_false (fun h => c2 h.2.1))
          have HB4 := Lib.hid (show Below w4.heap.size w4 w4.drew from (Below.refl _ _).drew)
          clear c2
          go_region
          go_wp2_with fail
          go_meet
          exact ⟨by rw [HZ.out], HB4⟩
      · have d1 : decide (f.now.size < (onP f.now p).size) = false := decide_eq_false c1
        have HZ := Lib.hid (show decide (full room U f.now.size (onP f.now p).size) = false from decide_eq_false (fun h => c1 (by have := h.1; omega)))
        have HB4 := Lib.hid (show Below w4.heap.size w4 w4.drew from (Below.refl _ _).drew)
        go_region
        go_wp2_with fail
        go_meet
        exact ⟨by rw [HZ.out], HB4⟩
    case rest =>
      obtain ⟨rfl, HB5⟩ := hcut
      by_cases hfull : full room U f.now.size (onP f.now p).size
      · rw [decide_eq_true hfull]
        have HZ := Lib.hid (And.intro hfull (HX4.out.below.trans (HB5.out.mono HX4.out.below.size)))
        clear hfull
        go_wp2_with fail
        go_ret
        exact ⟨fun _ => ⟨rfl, HZ.out.2⟩, fun h => absurd HZ.out.1 h⟩
      · rw [decide_eq_false hfull]
        have HZ := Lib.hid hfull
        clear hfull
        have HX5 := Lib.hid (HX4.out.later HB5.out)
        have HD5 := Lib.hid (HD.out.below HX5.out.below)
        go_wp2_with fail
        refine (due_any HD5.out.obj h0 (by omega)).mono ?_
        rintro e' w6 ⟨rfl, ho6, ht6⟩
        obtain ⟨a1, a2, a3, a4⟩ := ne_db HD5.out.obj HX5.out.own
        have HO6 := Lib.hid (HX5.out.own.stay ht6 a1 (fun k hk => (a3 k hk).1))
        have hp6 : w6.heap[w.heap.size]? = some (.cells #[.string p.1, .bool p.2] 58 (0, 0)) := (ht6.block _ (blk_lt HX5.out.box) (fun e => by have := blk_lt HD.out.obj.cells; omega)).trans HX5.out.box
        have y0 : w6.cell? ⟨w.heap.size, 0, none⟩ = some (.string p.1) := cell_in hp6 0
        have y1 : w6.cell? ⟨w.heap.size, 1, none⟩ = some (.bool p.2) := cell_in hp6 1
        have z2 : w6.cell? ⟨e.b, 2, none⟩ = some e.v := cell_in HO6.out.lies 2
        have fz : w6.frozen? ⟨e.b, 2, none⟩ = false := free_in HO6.out.lies 2
        have HOb6 := Lib.hid ho6
        have HT6 := Lib.hid ht6
        have lb : e.b < w6.heap.size := blk_lt HO6.out.lies
        have lp : w.heap.size < w6.heap.size := blk_lt hp6
        have nb1 : e.v.ownBlock ≠ some e.b := (Kd.R_ne HO6.out.row HO6.out.lies (by decide)).symm
        obtain ⟨_, inner, hin, hrp⟩ := HO6.out.row
        have HI := Lib.hid (And.intro hin hrp)
        obtain ⟨i0, hi0, hz0, hz1, hz2⟩ := info_parts infoP
        have hll : e.f.loose.length ≤ 1000000 := by rw [HE.out.1]; exact HE.out.2
        have hl1 : e.f.loose.length + 1 ≤ maxLen := by unfold maxLen; omega
        have hl2 : (e.f.loose.length + 1) * 24 ≤ 140737488355328 := by omega
        have nf : ∀ o, (w6.alloc o).drew.frozen? ⟨e.b, 2, none⟩ = false := fun o => free_in (w := (w6.alloc o).drew) ((Below.heap_alloc w6 o e.b lb).trans HO6.out.lies) 2
        have nc : ∀ o, (w6.alloc o).drew.cell? ⟨e.b, 2, none⟩ = some e.v := fun o => cell_in (w := (w6.alloc o).drew) ((Below.heap_alloc w6 o e.b lb).trans HO6.out.lies) 2
        clear ho6 ht6 a1 a2 a3 a4 hp6 hin hrp
        go_wp2_with fail
        go_region_law
          ((refine step_append_lies _ (by rfl) _ _ _ (by rfl) 0 58 i0 _ 2 24 Try.underlying67 hi0 hz0 hz1 hz2 rfl (by omega) e.v e.f.loose.length inner (by rfl) ((HI.out.1.alloc _).drew)
              ⟨w6.heap.size, 0, none⟩ 1 1 [.string p.1, .bool p.2] (by rfl) (by rfl) (World.news_of_block (cs := #[.string p.1, .bool p.2]) (t := 58) (fr := (0, 0)) (heap_alloc_new w6 _)) (by simp [Value.oneCell'])
              (by omega) hl1 hl2 (by simp) (w6.heap.size + 1) (by simp) ?_; intro gg cap w7 hown1 hgrow hat hlt
            have k1 : w7.cell? ⟨e.b, 2, none⟩ = some e.v := (hgrow.cell_far ⟨e.b, 2, none⟩ (by simp; omega) (Ne.symm nb1)).trans (nc _)
            have k2 : w7.frozen? ⟨e.b, 2, none⟩ = false := (hgrow.frozen_far ⟨e.b, 2, none⟩ (by simp; omega) (Ne.symm nb1)).trans (nf _)))
        all_goals
          obtain ⟨ho8, ht8⟩ := appended (p := p) HO6.out HI.out.1 HI.out.2 (((Below.refl _ w6).alloc (Nat.le_refl _) _).drew) hown1 hgrow hat (by simp)
          generalize hw8 : w7.setCell ⟨e.b, 2, none⟩ (.slice (some ⟨gg, 0, none⟩) (e.f.loose.length + 1) cap) = w8 at ho8 ht8 ⊢
          have HO8 := Lib.hid ho8
          have HT8 := Lib.hid ht8
          have HOb8 := Lib.hid (show IsObj w8 db mb (mapV FE.b L) room true (next + 1) from by
            obtain ⟨a1, a2, a3, a4⟩ := ne_db HOb6.out HO6.out
            exact HOb6.out.kept (ht8.block _ (blk_lt HOb6.out.cells) (fun h => h.elim (fun h => a1 h.symm) (fun h => (a3 _ h).1 rfl))) (ht8.block _ HOb6.out.map.lt (fun h => h.elim (fun h => a2 h.symm) (fun h => (a3 _ h).2 rfl))))
          have HA8 := Lib.hid (show e.v.ownBlock = some gg ∨ gg = w6.heap.size + 1 from hat)
          have x0 := cell_in HOb8.out.cells 0
          clear ho8 ht8 hw8 hown1 hgrow hat hlt k1 k2 y0 y1 z2 fz nf nc nb1
          have hks : keyOf Try.prog 9 (.string s) = some (ekS s) := WideMaps.keyOf_string_mk Try.underlying9 (Nat.le_trans hs (by decide))
          go_wp2_with (first
            | (at_mapUpdate; refine wpList_store_is _ rfl _ _ _ 59 rfl lawS Try.underlying59 rfl HOb8.out.map (by rw [mapV_len]; unfold maxLen; omega) ekS_inj ekS_key s e.b hks rfl ?_; intro w9 hm9 hg9; have H9 := Lib.hid (And.intro hm9 hg9); clear hm9 hg9)
            | go_in)
          go_ret
          refine ⟨fun h => absurd h HZ.out, fun _ => ⟨rfl, e.b, .slice (some ⟨gg, 0, none⟩) (e.f.loose.length + 1) cap, ?_⟩⟩
          have hTw : Turn (fun k => k = db ∨ (k = e.b ∨ e.v.ownBlock = some k)) w w8 :=
            ((Turn.of_below HX5.out.below).trans (HT6.out.mono (fun k h => .inl h))).trans (HT8.out.mono (fun k h => .inr h))
          rw [← HE.out.1]
          rcases HX5.out.old with ho | ⟨_, _, ho, hn⟩
          · exact put_end HD.out hTw HOb8.out s ⟨e.b, e.f.put p, .slice (some ⟨gg, 0, none⟩) (e.f.loose.length + 1) cap⟩ HO8.out (fun k _ h => h.imp id (fun h => ⟨e, ho, h⟩)) (.inr ⟨e, ho, rfl⟩) (fun k hk => by
              have hk : gg = k := by simpa [Value.ownBlock] using hk
              subst hk
              rcases HA8.out with h | h
              · exact .inr ⟨e, ho, h⟩
              · exact .inl (by omega)) H9.out.1 H9.out.2
          · exact put_end HD.out hTw HOb8.out s ⟨e.b, e.f.put p, .slice (some ⟨gg, 0, none⟩) (e.f.loose.length + 1) cap⟩ HO8.out (fun k hk h => h.elim .inl (fun h => h.elim (fun h => absurd h (by omega)) (fun h => by rw [hn] at h; cases h))) (.inl (Nat.le_of_lt ho)) (fun k hk => by
              have hk : gg = k := by simpa [Value.ownBlock] using hk
              subst hk
              rcases HA8.out with h | h
              · rw [hn] at h; cases h
              · exact .inl (by omega)) H9.out.1 H9.out.2
end
end Go.Proofs.YtcongfiojbajeaaK
