/- The small machine, a text of 20 parts: a program's run on related heaps. Conditions: none. -/
import Derived.RangeFuncLeaves
import Derived.OrdersIn
import Derived.Lib.Bytealg
import Derived.Lib.MakeNoZero
import Derived.Lib.UnsafeStr
import Derived.Lib.Builder
import Derived.Test.YtcongfiojbajeaaDa
import Derived.Test.YtcongfiojbajeaaDb
/- The small machine's operations, all of them: an operation of the code does what the small machine's does. Conditions: none. -/
namespace Go.Proofs.YtcongfiojbajeaaD
open Go Go.RowKit
set_option linter.unusedVariables false
set_option linter.unusedSimpArgs false
variable {P : Program} {E : Env} {nb base : Nat} {w0 w : World} {ρ : Rho} {s : St} {outs : Outs}

abbrev Fw (ro : Option Nat) : Fence := { Fence.wide with round := ro }
/-! ### operands -/
theorem evs_eq (fr : Fr) : ∀ (l : List Operand) (c : List DVal → HM), evs E fr l c = c (l.map (ev E fr)) := by
  intro l
  induction l with
  | nil => intro c; rfl
  | cons o l ih =>
    intro c
    show fV (ev E fr o) (fun v => evs E fr l fun vs => c (v :: vs)) = _
    rw [fV_eq, ih]; rfl
theorem evps_eq (fr : Fr) : ∀ (l : List (Nat × Operand)) (c : List (Nat × DVal) → HM), evps E fr l c = c (l.map fun p => (p.1, ev E fr p.2)) := by
  intro l
  induction l with
  | nil => intro c; rfl
  | cons p l ih =>
    intro c
    obtain ⟨i, o⟩ := p
    show fV (ev E fr o) (fun v => evps E fr l fun vs => c ((i, v) :: vs)) = _
    rw [fV_eq, ih]; rfl
theorem vs_map {fr : Fr} {f : Operand → Value} : ∀ (l : List Operand), (∀ x ∈ l, VRel ρ (ev E fr x) (f x)) → VsRel ρ (l.map (ev E fr)) (l.map f)
  | [], _ => VsRel.nil
  | x :: l, h => VsRel.cons (h x (by simp)) (vs_map l fun y hy => h y (by simp [hy]))
theorem ps_map {fr : Fr} {f : Operand → Value} : ∀ (l : List (Nat × Operand)), (∀ x ∈ l, VRel ρ (ev E fr x.2) (f x.2)) → PsRel ρ (l.map fun p => (p.1, ev E fr p.2)) (l.map fun p => (p.1, f p.2))
  | [], _ => rfl
  | p :: l, h => ⟨_, _, rfl, h p (by simp), ps_map l fun y hy => h y (by simp [hy])⟩
theorem un_rel : VRel ρ dU undef := by simp only [dU, VRel]; exact ⟨#[], rfl, VsRel.nil⟩
/-! ### one operation -/
section
variable {n : Nat} {o : Oper} {ro : Option Nat} {a : Act} {next : Act → World → Prop} {Q : Exit → Act → World → Prop}
theorem wp_value {w' : World} {v : Value} (hd : ∀ c, o.op ≠ .defer c) (h : (execOp a.eval o).run P w = .ok (.value v) w') (hn : next (a.put o.dst v) w') : o.wpIn (Fw ro) n P a w next Q :=
  ⟨fun _ _ => trivial, by rw [Oper.semAt_eq _ _ _ hd, h]; exact hn⟩
theorem wp_skip {w' : World} (hd : ∀ c, o.op ≠ .defer c) (h : (execOp a.eval o).run P w = .ok .skip w') (hn : next (a.put o.dst undef) w') : o.wpIn (Fw ro) n P a w next Q :=
  ⟨fun _ _ => trivial, by rw [Oper.semAt_eq _ _ _ hd, h]; exact hn⟩
/-- What is asked behind an operation. -/
def Goes (P : Program) (nb base : Nat) (w0 : World) (ρ : Rho) (K : DVal → HM) (outs : Outs) (next : Value → World → Prop) : Prop :=
  ∀ (ρ' : Rho) (w' : World) (d : DVal) (v : Value) (s' : St), ρ.le ρ' → Rel P nb base w0 ρ' s'.h w' → VRel ρ' d v → Ok nb (K d) s' outs → next v w'
theorem sim_wp {sem : Sem Value} {m : (DVal → HM) → HM} {K : DVal → HM} (hd : ∀ c, o.op ≠ .defer c) (he : execOp a.eval o = (do pure (.value (← sem)))) (hs : Sim P nb base w0 ρ w sem m VRel) (hok : Ok nb (m K) s outs) (r : Rel P nb base w0 ρ s.h w)
    (hn : Goes P nb base w0 ρ K outs fun v w' => next (a.put o.dst v) w') : o.wpIn (Fw ro) n P a w next Q := by
  obtain ⟨ρ', w', d, v, s', hle, hrun, hrel, hv, hok⟩ := hs K s outs hok r
  exact wp_value hd (by rw [he, Sem.run_bind, hrun]; rfl) (hn ρ' w' d v s' hle hrel hv hok)
theorem st_wp {sem : Sem Unit} {K : DVal → HM} (hd : ∀ c, o.op ≠ .defer c) (he : execOp a.eval o = (do sem; pure .skip)) (hs : ∃ w' s', sem.run P w = .ok () w' ∧ Rel P nb base w0 ρ s'.h w' ∧ Ok nb (K dU) s' outs)
    (hn : Goes P nb base w0 ρ K outs fun v w' => next (a.put o.dst v) w') : o.wpIn (Fw ro) n P a w next Q := by
  obtain ⟨w', s', hrun, hrel, hok⟩ := hs
  exact wp_skip hd (by rw [he, Sem.run_bind, hrun]; rfl) (hn ρ w' dU undef s' ρ.le_refl hrel un_rel hok)
theorem now_wp {K : DVal → HM} {d : DVal} {v : Value} (hd : ∀ c, o.op ≠ .defer c) (he : (execOp a.eval o).run P w = .ok (.value v) w) (hv : VRel ρ d v) (hok : Ok nb (K d) s outs) (r : Rel P nb base w0 ρ s.h w)
    (hn : Goes P nb base w0 ρ K outs fun v w' => next (a.put o.dst v) w') : o.wpIn (Fw ro) n P a w next Q :=
  wp_value hd he (hn ρ w d v s ρ.le_refl r hv hok)
end
/-! ### builtins -/
theorem app_args {ts : Array TypeId} {vs : Array Value} {ty t t2 : Nat} {u v : Value} (h0 : ts[0]? = some t) (h1 : ts[1]? = some t2) (h2 : vs[0]? = some u) (h3 : vs[1]? = some v) : Builtin.append_ ts ty vs = Builtin.append_ #[t, t2] ty #[u, v] := by
  unfold Builtin.append_; simp only [h0, h1, h2, h3]; rfl
theorem copy_args {ts : Array TypeId} {vs : Array Value} {ty t : Nat} {u v : Value} (h0 : ts[0]? = some t) (h2 : vs[0]? = some u) (h3 : vs[1]? = some v) : Builtin.copy_ ts ty vs = Builtin.copy_ #[t, t] ty #[u, v] := by
  unfold Builtin.copy_; simp only [h0, h2, h3]; rfl
theorem at0 {α : Type} {a : Array α} {x : α} {l : List α} (h : a.toList = x :: l) : a[0]? = some x := by rw [← Array.getElem?_toList, h]; rfl
theorem at1 {α : Type} {a : Array α} {x y : α} {l : List α} (h : a.toList = x :: y :: l) : a[1]? = some y := by rw [← Array.getElem?_toList, h]; rfl
theorem builtin_sim (he : EOk P E) {b : Builtin} {ts : Array TypeId} {ty : Nat} {cs : Array Bool} {ds : List DVal} {vs : Array Value} {K : DVal → HM} (hv : VsRel ρ ds vs.toList) (hok : Ok nb (builtinX E b ts.toList ds K) s outs) (r : Rel P nb base w0 ρ s.h w) :
    ∃ (ρ' : Rho) (w' : World) (d : DVal) (v : Value) (s' : St), ρ.le ρ' ∧ (builtin b ts ty cs vs).run P w = .ok (.value v) w' ∧ Rel P nb base w0 ρ' s'.h w' ∧ VRel ρ' d v ∧ Ok nb (K d) s' outs := by
  have fin : ∀ (sem : Sem Value), builtin b ts ty cs vs = (do pure (.value (← sem))) → (∃ (ρ' : Rho) (w' : World) (d : DVal) (v : Value) (s' : St), ρ.le ρ' ∧ sem.run P w = .ok v w' ∧ Rel P nb base w0 ρ' s'.h w' ∧ VRel ρ' d v ∧ Ok nb (K d) s' outs) →
      ∃ (ρ' : Rho) (w' : World) (d : DVal) (v : Value) (s' : St), ρ.le ρ' ∧ (builtin b ts ty cs vs).run P w = .ok (.value v) w' ∧ Rel P nb base w0 ρ' s'.h w' ∧ VRel ρ' d v ∧ Ok nb (K d) s' outs := by
    intro sem h ⟨ρ', w', d, v, s', h1, h2, h3⟩
    exact ⟨ρ', w', d, v, s', h1, by rw [h, Sem.run_bind, h2]; rfl, h3⟩
  have key : ∀ (tl : List Nat), ts.toList = tl → Ok nb (builtinX E b tl ds K) s outs → ∃ (ρ' : Rho) (w' : World) (d : DVal) (v : Value) (s' : St), ρ.le ρ' ∧ (builtin b ts ty cs vs).run P w = .ok (.value v) w' ∧ Rel P nb base w0 ρ' s'.h w' ∧ VRel ρ' d v ∧ Ok nb (K d) s' outs := by
    clear hok
    intro tl htl hok
    cases ds with
    | nil => cases b <;> cases tl <;> first | exact (Ok_fail hok).elim | (rename_i tl; cases tl <;> exact (Ok_fail hok).elim)
    | cons x ds =>
      obtain ⟨u, us, hvs, h1, h2⟩ := hv.cons_inv
      have mm : (b = .max ∨ b = .min) → ∃ (ρ' : Rho) (w' : World) (d : DVal) (v : Value) (s' : St), ρ.le ρ' ∧ (builtin b ts ty cs vs).run P w = .ok (.value v) w' ∧ Rel P nb base w0 ρ' s'.h w' ∧ VRel ρ' d v ∧ Ok nb (K d) s' outs := by
        rintro (rfl | rfl)
        · obtain ⟨d, q, q1, q2, q3⟩ := mmX_ok true ds x u us K h1 h2 hok
          exact fin _ rfl ⟨ρ, w, d, q, s, ρ.le_refl, by unfold Builtin.max_; rw [hvs]; exact q3 w, r, q1, q2⟩
        · obtain ⟨d, q, q1, q2, q3⟩ := mmX_ok false ds x u us K h1 h2 hok
          exact fin _ rfl ⟨ρ, w, d, q, s, ρ.le_refl, by unfold Builtin.min_; rw [hvs]; exact q3 w, r, q1, q2⟩
      cases tl with
      | nil =>
        cases b with
        | max => exact mm (.inl rfl)
        | min => exact mm (.inr rfl)
        | _ => exact (Ok_fail hok).elim
      | cons t tl =>
        cases b with
        | max => exact mm (.inl rfl)
        | min => exact mm (.inr rfl)
        | len => exact fin _ rfl (len_sim he (at0 htl) (at0 hvs) h1 K s outs hok r)
        | cap => exact fin _ rfl (cap_sim he (at0 htl) (at0 hvs) h1 K s outs hok r)
        | clear => exact fin _ rfl (clear_sim he (at0 htl) (at0 hvs) h1 K s outs hok r)
        | copy =>
          cases ds with
          | nil => exact (Ok_fail hok).elim
          | cons y ds =>
            obtain ⟨u2, us2, rfl, h3, h4⟩ := h2.cons_inv
            exact fin _ rfl (by rw [copy_args (at0 htl) (at0 hvs) (at1 hvs)]; exact copy_sim he h1 h3 K s outs hok r)
        | delete =>
          cases ds with
          | nil => exact (Ok_fail hok).elim
          | cons y ds =>
            obtain ⟨u2, us2, rfl, h3, h4⟩ := h2.cons_inv
            exact fin _ rfl (delete_sim he (at0 htl) (at0 hvs) (at1 hvs) h1 h3 K s outs hok r)
        | append =>
          cases tl with
          | nil => exact (Ok_fail hok).elim
          | cons tt tl =>
            cases ds with
            | nil => exact (Ok_fail hok).elim
            | cons y ds =>
              obtain ⟨u2, us2, rfl, h3, h4⟩ := h2.cons_inv
              exact fin _ rfl (by rw [app_args (at0 htl) (at1 htl) (at0 hvs) (at1 hvs)]; exact append_sim he h1 h3 K s outs hok r)
        | _ => exact (Ok_fail hok).elim
  exact key _ rfl hok
end Go.Proofs.YtcongfiojbajeaaD

/- The small machine's operations, all of them: an operation of the code does what the small machine's does. Conditions: none. -/
namespace Go.Proofs.YtcongfiojbajeaaD
open Go Go.RowKit
set_option linter.unusedVariables false
set_option linter.unusedSimpArgs false
variable {P : Program} {E : Env} {nb base : Nat} {w0 w : World} {ρ : Rho} {s : St} {outs : Outs}

/-- A call has returned, as the small machine's has. -/
def Retd (P : Program) (nb base : Nat) (w0 : World) (ρ : Rho) (outs : Outs) (e : Ending) (w' : World) : Prop :=
  ∃ (ρ' : Rho) (d : DVal) (v : Value) (s' : St), e = .returned v ∧ ρ.le ρ' ∧ Rel P nb base w0 ρ' s'.h w' ∧ VRel ρ' d v ∧ outs d s'.h s'.n
structure CallsOk (P : Program) (E : Env) (nb base : Nat) (w0 : World) (ih : IH) : Prop where
  fn : ∀ (f : Nat) (args : List DVal) (vargs : Array Value) (ρ : Rho) (w : World) (s : St) (outs : Outs) (n : Nat) (ro : Option Nat), Rel P nb base w0 ρ s.h w → VsRel ρ args vargs.toList → Ok nb (callF E ih f args) s outs →
    (∃ fn, P.funcs[f]? = some fn ∧ fn.body.isNone = false ∧ fn.name ≠ "runtime.NumGoroutine") ∧ CallsIn (Fw ro) n P f vargs w (Retd P nb base w0 ρ outs)
  round : ∀ (l c : Nat) (args : List DVal) (vargs : Array Value) (ρ : Rho) (w : World) (s : St) (outs : Outs) (n : Nat) (ro : Option Nat), Rel P nb base w0 ρ s.h w → ρ l = some (c, 0) → VsRel ρ args vargs.toList → Ok nb (roundF ih l args) s outs →
    ∃ f tmps assign body, (Instr.yield c vargs).run P w = .ok (.round c f tmps assign body) w ∧ RoundIn (Fw ro) n P c f tmps assign body w (Retd P nb base w0 ρ outs)
  ext : ∀ f p, T.get E.flat (f + 1) = some p → ∀ (args : List DVal) (vargs : Array Value) (ρ : Rho) (w : World) (s : St) (outs : Outs), Rel P nb base w0 ρ s.h w → VsRel ρ args vargs.toList → Ok nb (p args) s outs →
    ∃ v w', (callFunc f vargs).run P w = .ok (.value v) w' ∧ Retd P nb base w0 ρ outs (.returned v) w'
/-- The functions without a body. -/
def ExtOk (P : Program) (E : Env) (nb base : Nat) (w0 : World) : Prop :=
  ∀ f p, T.get E.flat (f + 1) = some p → ∀ (args : List DVal) (vargs : Array Value) (ρ : Rho) (w : World) (s : St) (outs : Outs), Rel P nb base w0 ρ s.h w → VsRel ρ args vargs.toList → Ok nb (p args) s outs →
    ∃ v w', (callFunc f vargs).run P w = .ok (.value v) w' ∧ Retd P nb base w0 ρ outs (.returned v) w'
theorem run_callFunc {f : Nat} {fn : Func} {args : Array Value} (h : P.funcs[f]? = some fn) (hb : fn.body.isNone = false) (hn : fn.name ≠ "runtime.NumGoroutine") (w : World) : (callFunc f args).run P w = .ok (.enter f args) w := by
  have hb' : ¬ fn.body = none := by intro e; rw [e] at hb; cases hb
  simp [callFunc, h, hb', hn]
section
variable {n : Nat} {o : Oper} {ro : Option Nat} {a : Act} {next : Act → World → Prop} {Q : Exit → Act → World → Prop}
theorem wp_enter {f : Nat} {args : Array Value} (hd : ∀ c, o.op ≠ .defer c) (h : (execOp a.eval o).run P w = .ok (.enter f args) w) (hc : CallsIn (Fw ro) (n - 1) P f args w (Retd P nb base w0 ρ outs))
    (hn : ∀ (ρ' : Rho) (w' : World) (d : DVal) (v : Value) (s' : St), ρ.le ρ' → Rel P nb base w0 ρ' s'.h w' → VRel ρ' d v → outs d s'.h s'.n → next (a.put o.dst v) w') : o.wpIn (Fw ro) n P a w next Q := by
  refine ⟨fun _ _ => trivial, ?_⟩
  rw [Oper.semAt_eq _ _ _ hd, h, Oper.uponIn_enter]
  refine ⟨fun h => (by cases h), hc.mono fun e w' he => ?_⟩
  obtain ⟨ρ', d, v, s', rfl, h1, h2, h3, h4⟩ := he
  exact hn ρ' w' d v s' h1 h2 h3 h4
theorem wp_round {l f : Nat} {tmps : Array Value} {assign body : Code} (hd : ∀ c, o.op ≠ .defer c) (h : (execOp a.eval o).run P w = .ok (.round l f tmps assign body) w) (hc : RoundIn (Fw ro) (n - 1) P l f tmps assign body w (Retd P nb base w0 ρ outs))
    (hn : ∀ (ρ' : Rho) (w' : World) (d : DVal) (v : Value) (s' : St), ρ.le ρ' → Rel P nb base w0 ρ' s'.h w' → VRel ρ' d v → outs d s'.h s'.n → next (a.put o.dst v) w') : o.wpIn (Fw ro) n P a w next Q := by
  refine ⟨fun _ _ => trivial, ?_⟩
  rw [Oper.semAt_eq _ _ _ hd, h, Oper.uponIn_round]
  refine ⟨fun h => (by cases h), hc.mono fun e w' he => ?_⟩
  obtain ⟨ρ', d, v, s', rfl, h1, h2, h3, h4⟩ := he
  exact hn ρ' w' d v s' h1 h2 h3 h4
theorem call_sound {ih : IH} {fr : Fr} {cl : Call} {K : DVal → HM} (he : EOk P E) (hc : CallsOk P E nb base w0 ih) (ho : o.op = .call cl) (hops : ∀ x ∈ cl.operands, VRel ρ (ev E fr x) (a.eval x)) (hok : Ok nb (callX E ih fr cl false K) s outs)
    (r : Rel P nb base w0 ρ s.h w) (hn : Goes P nb base w0 ρ K outs fun v w' => next (a.put o.dst v) w') : o.wpIn (Fw ro) n P a w next Q := by
  obtain ⟨callee, args, ts⟩ := cl
  have hd : ∀ c, o.op ≠ .defer c := fun c h => by rw [ho] at h; cases h
  have hargs : VsRel ρ (args.toList.map (ev E fr)) (args.map a.eval).toList := by
    rw [Array.toList_map]
    exact vs_map _ fun x hx => hops x (by simp [Call.operands]; exact .inr (by simpa using hx))
  cases callee with
  | invoke r nm =>
    have hok1 : Ok nb (evs E fr args.toList fun vs => HM.fail) s outs := hok
    rw [evs_eq] at hok1; exact (Ok_fail hok1).elim
  | builtin b =>
    have hok1 : Ok nb (evs E fr args.toList fun vs => builtinX E b ts.toList vs K) s outs := hok
    rw [evs_eq] at hok1
    obtain ⟨ρ', w', d, v, s', hle, hrun, hrel, hv, hok⟩ := builtin_sim (ty := o.type) (cs := args.map fun | .const _ => true | _ => false) he hargs hok1 r
    refine wp_value hd ?_ (hn ρ' w' d v s' hle hrel hv hok)
    unfold execOp
    rw [ho]
    simp only [resolve, Sem.run_bind, Sem.run_pure, Result.andThen_ok, invoke]
    exact hrun
  | value f =>
    have hok1 : Ok nb (evs E fr args.toList fun vs => HM.sub false (callV E ih (ev E fr f) vs) fun v _ _ => K v) s outs := hok
    rw [evs_eq] at hok1
    have hf : VRel ρ (ev E fr f) (a.eval f) := hops f (by simp [Call.operands])
    have hok1 := Ok_sub hok1
    have fin : ∀ (ρ' : Rho) (w' : World) (d : DVal) (v : Value) (s' : St), ρ.le ρ' → Rel P nb base w0 ρ' s'.h w' → VRel ρ' d v → (∃ rd wr : List Nat, Ok nb (K d) ⟨s'.h, s'.n⟩ outs) → next (a.put o.dst v) w' :=
      fun ρ' w' d v s' h1 h2 h3 ⟨_, _, h4⟩ => hn ρ' w' d v ⟨s'.h, s'.n⟩ h1 h2 h3 h4
    generalize hvs : args.toList.map (ev E fr) = ds at hok1 hargs
    cases hfd : ev E fr f with
    | func fn first cap =>
      rw [hfd] at hf hok1
      simp only [VRel] at hf
      obtain ⟨a', b', hfv, h1, h2⟩ := hf
      cases fn with
      | func g =>
        have hok2 : Ok nb (lapp first ds fun a => lapp a cap fun a => Option.rec (callF E ih g a) (fun p => p a) (T.get E.flat (Nat.succ g))) s _ := hok1
        rw [lapp_eq, lapp_eq] at hok2
        have hall : VsRel ρ (first ++ ds ++ cap) (a' ++ args.map a.eval ++ b').toList := by simp only [Array.toList_append]; exact (h1.app hargs).app h2
        cases hx : T.get E.flat (Nat.succ g) with
        | none =>
          rw [hx] at hok2
          obtain ⟨⟨fn, hfn, hb, hnm⟩, hcall⟩ := hc.fn g _ (a' ++ args.map a.eval ++ b') ρ w s _ (n - 1) ro r hall hok2
          refine wp_enter hd ?_ hcall fin
          unfold execOp
          rw [ho]
          simp only [resolve, Sem.run_bind, Sem.run_pure, Result.andThen_ok, hfv, Deferred.ofValue, invoke]
          exact run_callFunc hfn hb hnm w
        | some p =>
          rw [hx] at hok2
          obtain ⟨v, w', hrun, ρ', d, v', s', hv, q1, q2, q3, q4⟩ := hc.ext g p hx _ (a' ++ args.map a.eval ++ b') ρ w s _ r hall hok2
          cases hv
          refine wp_value hd ?_ (fin ρ' w' d v s' q1 q2 q3 q4)
          unfold execOp
          rw [ho]
          simp only [resolve, Sem.run_bind, Sem.run_pure, Result.andThen_ok, hfv, Deferred.ofValue, invoke]
          exact hrun
      | _ => exact (Ok_fail hok1).elim
    | yld l =>
      rw [hfd] at hf hok1
      simp only [VRel] at hf
      obtain ⟨c, hρ, hfv⟩ := hf
      obtain ⟨g, tmps, assign, body, hy, hround⟩ := hc.round l c ds (args.map a.eval) ρ w s _ (n - 1) ro r hρ hargs hok1
      refine wp_round hd ?_ hround fin
      unfold execOp
      rw [ho]
      simp only [resolve, Sem.run_bind, Sem.run_pure, Result.andThen_ok, hfv, Deferred.ofValue, invoke, Array.empty_append]
      exact hy
    | _ => rw [hfd] at hok1; exact (Ok_fail hok1).elim
end
end Go.Proofs.YtcongfiojbajeaaD

/- An operation of the code does what the small machine's does. Conditions: none. -/
namespace Go.Proofs.YtcongfiojbajeaaD
open Go Go.RowKit
set_option linter.unusedVariables false
set_option linter.unusedSimpArgs false
variable {P : Program} {E : Env} {nb base : Nat} {w0 w : World} {ρ : Rho} {s : St} {outs : Outs}

theorem optO_map {fr : Fr} {f : Operand → Value} (x : Option Operand) (h : ∀ y, x = some y → VRel ρ (ev E fr y) (f y)) : ORelO ρ (x.map (ev E fr)) (x.map f) := by
  cases x with
  | none => rfl
  | some y => exact ⟨f y, rfl, h y rfl⟩
theorem Ok_fV' {v : DVal} {k : DVal → HM} (h : Ok nb (fV v k) s outs) : Ok nb (k v) s outs := by rw [fV_eq] at h; exact h
theorem op_sound {n : Nat} {o : Oper} {ro : Option Nat} {a : Act} {next : Act → World → Prop} {Q : Exit → Act → World → Prop} {ih : IH} {fr : Fr} {K : DVal → HM} (he : EOk P E) (hc : CallsOk P E nb base w0 ih)
    (hops : ∀ x ∈ o.op.operands, VRel ρ (ev E fr x) (a.eval x)) (hok : Ok nb (opX o.op E ih fr K) s outs) (r : Rel P nb base w0 ρ s.h w)
    (hn : Goes P nb base w0 ρ K outs fun v w' => next (a.put o.dst v) w') : o.wpIn (Fw ro) n P a w next Q := by
  cases ho : o.op with
  | call cl =>
    rw [ho] at hops hok
    exact call_sound he hc ho hops hok r hn
  | move x =>
    rw [ho] at hops hok
    exact now_wp (fun c h => by rw [ho] at h; cases h) (by unfold execOp; rw [ho]; rfl) (hops x (by simp [Op.operands])) hok r hn
  | assign x =>
    rw [ho] at hops hok
    exact now_wp (fun c h => by rw [ho] at h; cases h) (by unfold execOp; rw [ho]; rfl) (hops x (by simp [Op.operands])) hok r hn
  | pick b x y =>
    rw [ho] at hops hok
    have hb := hops b (by simp [Op.operands])
    have hx := hops x (by simp [Op.operands])
    have hy := hops y (by simp [Op.operands])
    cases hbd : ev E fr b with
    | bool t =>
      rw [hbd] at hb
      have hok1 : Ok nb (match ev E fr b with
        | .bool t => Bool.rec (K (ev E fr y)) (K (ev E fr x)) t
        | _ => .fail) s outs := hok
      clear hok
      rw [hbd] at hok1
      simp only [VRel] at hb
      cases t with
      | true => exact now_wp (v := a.eval x) (fun c h => by rw [ho] at h; cases h) (by unfold execOp; rw [ho]; simp [hb, asBool]) hx hok1 r hn
      | false => exact now_wp (v := a.eval y) (fun c h => by rw [ho] at h; cases h) (by unfold execOp; rw [ho]; simp [hb, asBool]) hy hok1 r hn
    | _ =>
      have hok1 : Ok nb (match ev E fr b with
        | .bool t => Bool.rec (K (ev E fr y)) (K (ev E fr x)) t
        | _ => .fail) s outs := hok
      rw [hbd] at hok1; exact (Ok_fail hok1).elim
  | alloc t =>
    rw [ho] at hops hok
    exact sim_wp (fun c h => by rw [ho] at h; cases h) (by unfold execOp; rw [ho]) (alloc_sim he) hok r hn
  | box t x =>
    rw [ho] at hops hok
    exact sim_wp (fun c h => by rw [ho] at h; cases h) (by unfold execOp; rw [ho]) (box_sim (hops x (by simp [Op.operands]))) (Ok_fV' hok) r hn
  | build t ps =>
    rw [ho] at hops hok
    have hok1 : Ok nb (evps E fr ps.toList fun ps => buildX E t ps K) s outs := hok
    rw [evps_eq] at hok1
    refine sim_wp (fun c h => by rw [ho] at h; cases h) (by unfold execOp; rw [ho]) (build_sim he ?_) hok1 r hn
    rw [Array.toList_map]
    exact ps_map _ fun p hp => hops p.2 (by simp only [Op.operands, List.mem_toArray, List.mem_map]; exact ⟨p, hp, rfl⟩)
  | buildSlice t n ps =>
    rw [ho] at hops hok
    have hok1 : Ok nb (evps E fr ps.toList fun ps => buildSliceX E t n ps K) s outs := hok
    rw [evps_eq] at hok1
    refine sim_wp (fun c h => by rw [ho] at h; cases h) (by unfold execOp; rw [ho]) (buildSlice_sim he ?_) hok1 r hn
    rw [Array.toList_map]
    exact ps_map _ fun p hp => hops p.2 (by simp only [Op.operands, List.mem_toArray, List.mem_map]; exact ⟨p, hp, rfl⟩)
  | insert t m k v =>
    rw [ho] at hops hok
    exact st_wp (fun c h => by rw [ho] at h; cases h) (by unfold execOp; rw [ho]) (mapUpdate_sim he (hops m (by simp [Op.operands])) (hops k (by simp [Op.operands])) (hops v (by simp [Op.operands])) (Ok_fV' (Ok_fV' hok)) r) hn
  | mapUpdate t m k v =>
    rw [ho] at hops hok
    exact st_wp (fun c h => by rw [ho] at h; cases h) (by unfold execOp; rw [ho]) (mapUpdate_sim he (hops m (by simp [Op.operands])) (hops k (by simp [Op.operands])) (hops v (by simp [Op.operands])) (Ok_fV' (Ok_fV' hok)) r) hn
  | load t x =>
    rw [ho] at hops hok
    have hx := hops x (by simp [Op.operands])
    have hok1 : Ok nb (match ev E fr x with
      | .ptr b o => loadD E t b o K
      | _ => .fail) s outs := hok
    cases hxd : ev E fr x with
    | ptr b q =>
      rw [hxd] at hok1 hx
      exact sim_wp (fun c h => by rw [ho] at h; cases h) (by unfold execOp; rw [ho]) (load_sim he hx) hok1 r hn
    | _ => rw [hxd] at hok1; exact (Ok_fail hok1).elim
  | store t x v =>
    rw [ho] at hops hok
    have hx := hops x (by simp [Op.operands])
    have hv := hops v (by simp [Op.operands])
    have hok1 : Ok nb (match ev E fr x with
      | .ptr b o => fV (ev E fr v) fun v => storeD E t b o v (K dU)
      | _ => .fail) s outs := hok
    cases hxd : ev E fr x with
    | ptr b q =>
      rw [hxd] at hok1 hx
      exact st_wp (fun c h => by rw [ho] at h; cases h) (by unfold execOp; rw [ho]) (store_sim he hx hv (Ok_fV' hok1) r) hn
    | _ => rw [hxd] at hok1; exact (Ok_fail hok1).elim
  | nilCheck x =>
    rw [ho] at hops hok
    have hx := hops x (by simp [Op.operands])
    have hok1 : Ok nb (match ev E fr x with
      | .ptr b o => K (.ptr b o)
      | .func f a b => match f with
        | .func f => K (.func (.func f) a b)
        | _ => .fail
      | .iface t v => K (.iface t v)
      | _ => .fail) s outs := hok
    cases hxd : ev E fr x with
    | ptr b q =>
      rw [hxd] at hok1 hx
      have hx0 := hx
      simp only [VRel] at hx
      obtain ⟨c, sh, _, hv⟩ := hx
      exact now_wp (fun c h => by rw [ho] at h; cases h) (by unfold execOp; rw [ho]; simp only [hv]; rfl) (by rw [← hv]; exact hx0) hok1 r hn
    | func f p q =>
      rw [hxd] at hok1 hx
      have hx0 := hx
      simp only [VRel] at hx
      obtain ⟨p', q', hv, _⟩ := hx
      cases f with
      | func f => exact now_wp (fun c h => by rw [ho] at h; cases h) (by unfold execOp; rw [ho]; simp only [hv]; rfl) (by rw [← hv]; exact hx0) hok1 r hn
      | _ => exact (Ok_fail hok1).elim
    | iface t v =>
      rw [hxd] at hok1 hx
      have hx0 := hx
      simp only [VRel] at hx
      obtain ⟨v', hv, _⟩ := hx
      exact now_wp (fun c h => by rw [ho] at h; cases h) (by unfold execOp; rw [ho]; simp only [hv]; rfl) (by rw [← hv]; exact hx0) hok1 r hn
    | _ => rw [hxd] at hok1; exact (Ok_fail hok1).elim
  | binOp op t x y u =>
    rw [ho] at hops hok
    exact sim_wp (fun c h => by rw [ho] at h; cases h) (by unfold execOp; rw [ho]) (binX_sim he (hops x (by simp [Op.operands])) (hops y (by simp [Op.operands]))) hok r hn
  | unOp op t x =>
    rw [ho] at hops hok
    exact sim_wp (fun c h => by rw [ho] at h; cases h) (by unfold execOp; rw [ho]) (unX_sim (hops x (by simp [Op.operands]))) hok r hn
  | convert p q x =>
    rw [ho] at hops hok
    exact sim_wp (fun c h => by rw [ho] at h; cases h) (by unfold execOp; rw [ho]) (conv_sim he (hops x (by simp [Op.operands]))) hok r hn
  | makeInterface t x =>
    rw [ho] at hops hok
    obtain ⟨d, hd, hok1⟩ := Ok_desc he (show Ok nb (desc E t fun d => match d with
      | .interface _ => .fail
      | _ => fV (ev E fr x) fun v => K (.iface t v)) s outs from hok)
    have hx := hops x (by simp [Op.operands])
    have fin : (∀ ms, d ≠ .interface ms) → Ok nb (fV (ev E fr x) fun v => K (.iface t v)) s outs → o.wpIn (Fw ro) n P a w next Q := fun h1 h2 => by
      refine now_wp (K := K) (d := .iface t (ev E fr x)) (v := .iface t (a.eval x)) (fun c h => by rw [ho] at h; cases h) ?_ (by simp only [VRel]; exact ⟨_, rfl, hx⟩) (Ok_fV' (k := fun v => K (.iface t v)) h2) r hn
      unfold execOp; rw [ho]
      cases d <;> first | exact absurd rfl (h1 _) | simp [Instr.makeInterface, run_underlying hd]
    cases d with
    | interface ms => exact (Ok_fail hok1).elim
    | _ => exact fin (fun _ h => by cases h) hok1
  | makeFunc f p q =>
    rw [ho] at hops hok
    have hok1 : Ok nb (evs E fr p.toList fun a => evs E fr q.toList fun b => K (.func f a b)) s outs := hok
    rw [evs_eq, evs_eq] at hok1
    refine now_wp (v := .func f (p.map a.eval) (q.map a.eval)) (fun c h => by rw [ho] at h; cases h) (by unfold execOp; rw [ho]; simp [Instr.makeFunc]) ?_ hok1 r hn
    simp only [VRel]
    exact ⟨_, _, rfl, by rw [Array.toList_map]; exact vs_map _ fun x hx => hops x (by simp [Op.operands]; exact .inl (by simpa using hx)), by rw [Array.toList_map]; exact vs_map _ fun x hx => hops x (by simp [Op.operands]; exact .inr (by simpa using hx))⟩
  | makeMap t p =>
    rw [ho] at hops hok
    cases p with
    | none => exact sim_wp (fun c h => by rw [ho] at h; cases h) (by unfold execOp; rw [ho]) (makeMap_sim (fun h e => by cases e)) hok r hn
    | some x =>
      have hx := hops x (by simp [Op.operands])
      have hok1 : Ok nb (match ev E fr x with
        | .int _ _ => desc E t fun d => match d with
          | .map _ _ => HM.new (.map [] 0) fun b => K (.map b)
          | _ => .fail
        | _ => .fail) s outs := hok
      cases hxd : ev E fr x with
      | int kd m =>
        rw [hxd] at hok1 hx
        obtain ⟨d, hd, hok2⟩ := Ok_desc he hok1
        simp only [VRel] at hx
        cases d with
        | map p q => exact sim_wp (fun c h => by rw [ho] at h; cases h) (by unfold execOp; rw [ho]) (makeMap_sim (fun h e => by cases e; exact ⟨⟨p, q, hd⟩, kd, m, hx⟩)) hok2 r hn
        | _ => exact (Ok_fail hok2).elim
      | _ => rw [hxd] at hok1; exact (Ok_fail hok1).elim
  | makeSlice t x y =>
    rw [ho] at hops hok
    exact sim_wp (fun c h => by rw [ho] at h; cases h) (by unfold execOp; rw [ho]) (makeSlice_sim he (hops x (by simp [Op.operands])) (hops y (by simp [Op.operands]))) hok r hn
  | slice t x lo hi mx =>
    rw [ho] at hops hok
    exact sim_wp (fun c h => by rw [ho] at h; cases h) (by unfold execOp; rw [ho]) (slice_sim he (hops x (by simp [Op.operands])) (optO_map lo fun y e => hops y (by subst e; simp [Op.operands])) (optO_map hi fun y e => hops y (by subst e; simp [Op.operands])) (optO_map mx fun y e => hops y (by subst e; simp [Op.operands]))) hok r hn
  | fieldAddr t x f =>
    rw [ho] at hops hok
    exact sim_wp (fun c h => by rw [ho] at h; cases h) (by unfold execOp; rw [ho]) (fieldAddr_sim he (hops x (by simp [Op.operands]))) hok r hn
  | field t x f =>
    rw [ho] at hops hok
    exact sim_wp (fun c h => by rw [ho] at h; cases h) (by unfold execOp; rw [ho]) (field_sim he (hops x (by simp [Op.operands]))) hok r hn
  | indexAddr t x i =>
    rw [ho] at hops hok
    exact sim_wp (fun c h => by rw [ho] at h; cases h) (by unfold execOp; rw [ho]) (indexAddr_sim he (hops x (by simp [Op.operands])) (hops i (by simp [Op.operands]))) hok r hn
  | index t x i =>
    rw [ho] at hops hok
    exact sim_wp (fun c h => by rw [ho] at h; cases h) (by unfold execOp; rw [ho]) (index_sim he (hops x (by simp [Op.operands])) (hops i (by simp [Op.operands]))) hok r hn
  | lookup t x i ok =>
    rw [ho] at hops hok
    exact sim_wp (fun c h => by rw [ho] at h; cases h) (by unfold execOp; rw [ho]) (lookup_sim he (hops x (by simp [Op.operands])) (hops i (by simp [Op.operands]))) hok r hn
  | mapEntry t m k =>
    rw [ho] at hops hok
    exact sim_wp (fun c h => by rw [ho] at h; cases h) (by unfold execOp; rw [ho]) (mapEntry_sim he (hops m (by simp [Op.operands])) (hops k (by simp [Op.operands]))) (Ok_fV' hok) r hn
  | entryStore t m x v =>
    rw [ho] at hops hok
    exact st_wp (fun c h => by rw [ho] at h; cases h) (by unfold execOp; rw [ho]) (entryStore_sim (hops m (by simp [Op.operands])) (hops x (by simp [Op.operands])) (hops v (by simp [Op.operands])) (Ok_fV' hok) r) hn
  | range t x =>
    rw [ho] at hops hok
    exact sim_wp (fun c h => by rw [ho] at h; cases h) (by unfold execOp; rw [ho]) (range_sim he (hops x (by simp [Op.operands]))) hok r hn
  | next it p =>
    rw [ho] at hops hok
    cases p with
    | true => exact (Ok_fail hok).elim
    | false => exact sim_wp (fun c h => by rw [ho] at h; cases h) (by unfold execOp; rw [ho]) (next_sim (hops it (by simp [Op.operands]))) hok r hn
  | entry it =>
    rw [ho] at hops hok
    exact sim_wp (fun c h => by rw [ho] at h; cases h) (by unfold execOp; rw [ho]) (entry_sim (hops it (by simp [Op.operands]))) hok r hn
  | extract x i =>
    rw [ho] at hops hok
    have hx := hops x (by simp [Op.operands])
    have hok1 : Ok nb (match ev E fr x with
      | .tuple vs => Option.rec .fail K (lget vs i)
      | _ => .fail) s outs := hok
    cases hxd : ev E fr x with
    | tuple vs =>
      rw [hxd] at hok1 hx
      simp only [VRel] at hx
      obtain ⟨us, hu, hx⟩ := hx
      have hok2 : Ok nb (Option.rec .fail K (lget vs i)) s outs := hok1
      rw [lget_eq] at hok2
      cases hi : vs[i]? with
      | none => rw [hi] at hok2; exact (Ok_fail hok2).elim
      | some d =>
        rw [hi] at hok2
        obtain ⟨v, hv1, hv2⟩ := hx.get hi
        rw [Array.getElem?_toList] at hv1
        exact now_wp (v := v) (fun c h => by rw [ho] at h; cases h) (by unfold execOp; rw [ho]; simp [Instr.extract, hu, hv1]) hv2 hok2 r hn
    | _ => rw [hxd] at hok1; exact (Ok_fail hok1).elim
  | _ => rw [ho] at hok; exact (Ok_fail hok).elim
end Go.Proofs.YtcongfiojbajeaaD

/- The frame; regions that draw no order. Conditions: none. -/
namespace Go.Proofs.YtcongfiojbajeaaD
open Go Go.RowKit
set_option linter.unusedVariables false
set_option linter.unusedSimpArgs false
variable {P : Program} {E : Env} {nb base : Nat} {w0 w : World} {ρ : Rho} {s : St} {outs : Outs}

def DfRel (ρ : Rho) : List Nat → List Deferred → Prop
  | [], l => l = []
  | d :: ds, l => ∃ r rest, l = { target := .collected r, args := #[] } :: rest ∧ ρ d = some (r, 0) ∧ DfRel ρ ds rest
theorem DfRel.mono {ρ' : Rho} (h : ρ.le ρ') : ∀ {ds : List Nat} {l : List Deferred}, DfRel ρ ds l → DfRel ρ' ds l
  | [], _, e => e
  | _ :: _, _, ⟨r, rest, h1, h2, h3⟩ => ⟨r, rest, h1, h.f _ _ h2, DfRel.mono h h3⟩
structure FRel (ρ : Rho) (fr : Fr) (a : Act) : Prop where
  tm : TmRel ρ fr.n fr.tm a.tmps
  df : DfRel ρ fr.dfs a.defers
theorem FRel.mono {ρ' : Rho} (h : ρ.le ρ') {fr : Fr} {a : Act} (hf : FRel ρ fr a) : FRel ρ' fr a := ⟨hf.tm.mono h, hf.df.mono h⟩
theorem tget_eq (fr : Fr) (t : Nat) : tget fr t = (T.get fr.tm (t + 1)).getD dU := by
  cases fr with
  | mk tm n dfs fn rnd =>
    show (Option.rec dU (fun v => v) (T.get tm (t + 1)) : DVal) = _
    cases T.get tm (t + 1) <;> rfl
theorem FRel.get {fr : Fr} {a : Act} (hf : FRel ρ fr a) (t : Nat) : VRel ρ (tget fr t) (a.tmps.getD t undef) := by rw [tget_eq]; exact hf.tm.2 t
theorem ev_rel (hgl : E.gl ≤ nb) (r : Rel P nb base w0 ρ s.h w) {fr : Fr} {a : Act} {x : Operand} (hf : ∀ t, x = .tmp t → VRel ρ (tget fr t) (a.tmps.getD t undef)) : VRel ρ (ev E fr x) (a.eval x) := by
  cases x with
  | tmp t => exact hf t rfl
  | const v => exact cv_rel v
  | global g =>
    show VRel ρ (Bool.rec (.opq (.pointer (some ⟨g, 0, none⟩))) (.ptr (Nat.succ g) 0) (Nat.blt g E.gl)) _
    rw [brec]
    by_cases h : Nat.blt g E.gl = true
    · rw [if_pos h]; rw [blt_iff] at h; simp only [VRel]; exact ⟨g, 0, r.glob g (by omega), rfl⟩
    · rw [if_neg h]; simp only [VRel]; rfl
  | func f => simp only [ev, VRel]; exact ⟨#[], #[], rfl, VsRel.nil, VsRel.nil⟩
/-- The frame with a value put. -/
noncomputable def Fr.put (fr : Fr) (d : Option Nat) (v : DVal) : Fr := match d with
  | none => fr
  | some d => { fr with tm := T.put fr.tm (d + 1) v }
theorem tput_eq {fr : Fr} {d : Option Nat} {v : DVal} {k : Fr → HM} (h : Ok nb (tput fr d v k) s outs) : Ok nb (k (fr.put d v)) s outs ∧ ∀ t, d = some t → t < fr.n := by
  cases d with
  | none => exact ⟨h, fun t e => by cases e⟩
  | some d =>
    cases fr with
    | mk tm n dfs fn rnd =>
      obtain ⟨hc, h⟩ := Ok_chk (show Ok nb (Bool.rec .fail (fV v fun v => T.set tm (d + 1) v fun tm => k (Fr.mk tm n dfs fn rnd)) (Nat.blt d n)) s outs from h)
      have h := Ok_fV' h
      rw [T.set_eq] at h
      rw [blt_iff] at hc
      exact ⟨h, fun t e => by cases e; exact hc⟩
theorem Fr.put_n (fr : Fr) (d : Option Nat) (v : DVal) : (fr.put d v).n = fr.n := by cases d <;> rfl
theorem Fr.put_dfs (fr : Fr) (d : Option Nat) (v : DVal) : (fr.put d v).dfs = fr.dfs := by cases d <;> rfl
theorem Fr.put_rnd (fr : Fr) (d : Option Nat) (v : DVal) : (fr.put d v).rnd = fr.rnd := by cases d <;> rfl
theorem tget_put (fr : Fr) (d : Option Nat) (v : DVal) (t : Nat) : tget (fr.put d v) t = if d = some t then v else tget fr t := by
  rw [tget_eq, tget_eq]
  cases d with
  | none => simp [Fr.put]
  | some d =>
    show (T.get (T.put fr.tm (d + 1) v) (t + 1)).getD dU = _
    rw [T.get_put _ _ _ _ (by omega) (by omega)]
    by_cases h : t + 1 = d + 1
    · have : d = t := by omega
      subst this; simp
    · have : ¬ d = t := by omega
      rw [if_neg h, if_neg (by simpa using this)]
theorem put_get (a : Act) (d : Option Nat) (v : Value) (t : Nat) (h : ∀ t, d = some t → t < a.tmps.size) : (a.put d v).tmps.getD t undef = if d = some t then v else a.tmps.getD t undef := by
  cases d with
  | none => simp [Act.put]
  | some d =>
    have hd := h d rfl
    by_cases e : d = t
    · subst e; simp [Act.put, hd]
    · simp [Act.put, Array.getElem?_setIfInBounds_ne e, e]
theorem put_size (a : Act) (d : Option Nat) (v : Value) : (a.put d v).tmps.size = a.tmps.size := by cases d <;> simp [Act.put]
theorem put_defs (a : Act) (d : Option Nat) (v : Value) : (a.put d v).defers = a.defers := by cases d <;> rfl
theorem FRel.put {fr : Fr} {a : Act} (hf : FRel ρ fr a) {d : Option Nat} {v : DVal} {u : Value} (hv : VRel ρ v u) (hd : ∀ t, d = some t → t < fr.n) : FRel ρ (fr.put d v) (a.put d u) := by
  refine ⟨⟨by rw [put_size, Fr.put_n]; exact hf.tm.1, fun t => ?_⟩, by rw [Fr.put_dfs, put_defs]; exact hf.df⟩
  rw [← tget_eq, tget_put, put_get _ _ _ _ (fun t e => by rw [hf.tm.1]; exact hd t e)]
  split
  · exact hv
  · exact hf.get t
/-! ### what is wanted -/
theorem nthO_eq : ∀ (l : List Oper) (i : Nat), nthO l i = l[i]? := by
  intro l
  induction l with
  | nil => intro i; rfl
  | cons o l ih =>
    intro i
    cases i with
    | zero => rfl
    | succ i => exact ih i
theorem wanted_ok {ops : Array Oper} {fr : Fr} {o : Oper} {c : Bool → HM} (h : Ok nb (wantedC ops.toList fr o.guard c) s outs) :
    ∃ b, Ok nb (c b) s outs ∧ ∀ (ρ : Rho) (a : Act), (∀ t ∈ o.looksAt ops, VRel ρ (tget fr t) (a.tmps.getD t undef)) → Region.wanted o (yielded ops a.tmps) = b := by
  unfold wantedC at h
  cases hg : o.guard with
  | none => rw [hg] at h; exact ⟨true, h, fun ρ a _ => by simp [Region.wanted, hg]⟩
  | some p =>
    obtain ⟨j, want⟩ := p
    rw [hg] at h
    have h1 : Ok nb (Option.rec .fail (fun o => Oper.casesOn (motive := fun _ => HM) o fun d _ _ _ _ _ => Option.rec .fail (fun d => match tget fr d with
        | .bool b => c (Bool.rec (Bool.not b) b want)
        | .tuple _ => c false
        | _ => .fail) d) (nthO ops.toList j)) s outs := h
    rw [nthO_eq, Array.getElem?_toList] at h1
    cases hj : ops[j]? with
    | none => rw [hj] at h1; exact (Ok_fail h1).elim
    | some p =>
      rw [hj] at h1
      obtain ⟨d, op, ty, pos, af, g⟩ := p
      cases d with
      | none => exact (Ok_fail h1).elim
      | some d =>
        have h2 : Ok nb (match tget fr d with
          | .bool b => c (Bool.rec (Bool.not b) b want)
          | .tuple _ => c false
          | _ => .fail) s outs := h1
        have look : d ∈ o.looksAt ops := by simp [Oper.looksAt, hg, hj]
        have fin : ∀ (v : Value → Prop) (b : Bool), (∀ (ρ : Rho) u, VRel ρ (tget fr d) u → v u) → (∀ u, v u → ((match some u with | some (.bool b) => some b | _ => none) = some want ↔ b = true)) → Ok nb (c b) s outs →
            ∃ b, Ok nb (c b) s outs ∧ ∀ (ρ : Rho) (a : Act), (∀ t ∈ o.looksAt ops, VRel ρ (tget fr t) (a.tmps.getD t undef)) → Region.wanted o (yielded ops a.tmps) = b := by
          intro v b hv hb hc
          refine ⟨b, hc, fun ρ a ha => ?_⟩
          have h1 := ha d look
          have hu := (hb _ (hv ρ _ h1))
          unfold Region.wanted yielded
          by_cases hs : d < a.tmps.size
          · have e : a.tmps[d]? = some (a.tmps.getD d undef) := by simp [hs]
            simp only [hg, hj, Option.bind_some, e]
            rw [Bool.eq_iff_iff, beq_iff_eq]
            exact hu
          · have e : a.tmps[d]? = none := Array.getElem?_eq_none (Nat.le_of_not_lt hs)
            have e2 : a.tmps.getD d undef = undef := by simp [Array.getD, hs]
            rw [e2] at hu
            simp only [hg, hj, Option.bind_some, e]
            rw [Bool.eq_iff_iff, beq_iff_eq]
            exact hu
        cases ht : tget fr d with
        | bool b =>
          rw [ht] at h2
          refine fin (fun u => u = .bool b) _ (fun ρ u hu => by rw [ht] at hu; simpa [VRel] using hu) (fun u hu => ?_) h2
          subst hu
          cases want <;> cases b <;> simp
        | tuple vs =>
          rw [ht] at h2
          refine fin (fun u => ∃ a, u = .tuple a) false (fun ρ u hu => by rw [ht] at hu; simp only [VRel] at hu; obtain ⟨a, h, _⟩ := hu; exact ⟨a, h⟩) (fun u hu => ?_) h2
          obtain ⟨a, rfl⟩ := hu
          simp
        | _ => rw [ht] at h2; exact (Ok_fail h2).elim
/-! ### a region in its own order -/
/-- What is asked behind a piece of code that has come to its end. -/
def CGoes (P : Program) (nb base : Nat) (w0 : World) (ρ : Rho) (rnd : Option Nat) (c : Fr → HM) (outs : Outs) (next : Act → World → Prop) : Prop :=
  ∀ (ρ' : Rho) (fr' : Fr) (a' : Act) (w' : World) (s' : St), ρ.le ρ' → Rel P nb base w0 ρ' s'.h w' → FRel ρ' fr' a' → fr'.rnd = rnd → Ok nb (c fr') s' outs → next a' w'
theorem CGoes.le {ρ' : Rho} {rnd : Option Nat} {c : Fr → HM} {next : Act → World → Prop} (h : ρ.le ρ') (hc : CGoes P nb base w0 ρ rnd c outs next) : CGoes P nb base w0 ρ' rnd c outs next :=
  fun ρ2 fr' a' w' s' h1 => hc ρ2 fr' a' w' s' (Rho.le_trans h h1)
theorem ops_sound {ih : IH} (he : EOk P E) (hgl : E.gl ≤ nb) (hc : CallsOk P E nb base w0 ih) {n : Nat} {ro : Option Nat} {ops : Array Oper} {Q : Exit → Act → World → Prop} {c : Fr → HM} {rnd : Option Nat} :
    ∀ (l : List Oper) (i : Nat), ops.toList.drop i = l → ∀ (fr : Fr) (a : Act) (ρ : Rho) (w : World) (s : St), Ok nb (opsX E ih ops.toList l fr c) s outs → Rel P nb base w0 ρ s.h w → FRel ρ fr a → fr.rnd = rnd →
      CGoes P nb base w0 ρ rnd c outs (Q .normal) → wpOpsIn (Fw ro) n P ops Q (List.range' i l.length) a w := by
  intro l
  induction l with
  | nil => intro i _ fr a ρ w s hok r hf hr hn; exact hn ρ fr a w s ρ.le_refl r hf hr hok
  | cons o l ih2 =>
    intro i hl fr a ρ w s hok r hf hr hn
    have ho : ops[i]? = some o := by
      rw [← Array.getElem?_toList]
      have := congrArg (·[0]?) hl
      simpa using this
    have hl2 : ops.toList.drop (i + 1) = l := by
      rw [← List.drop_drop, hl]; rfl
    have hok1 : Ok nb (wantedC ops.toList fr o.guard fun t => Bool.rec (tput fr o.dst dU fun fr => opsX E ih ops.toList l fr c) (opX o.op E ih fr fun v => tput fr o.dst v fun fr => opsX E ih ops.toList l fr c) t) s outs := by
      cases o; exact hok
    obtain ⟨b, hok2, hw⟩ := wanted_ok hok1
    have hw := hw ρ a fun t _ => hf.get t
    show wpOpsIn (Fw ro) n P ops Q (i :: List.range' (i + 1) l.length) a w
    unfold wpOpsIn
    simp only [ho, hw]
    cases b with
    | true =>
      simp only [if_true]
      refine op_sound he hc (fun x hx => ev_rel hgl r fun t _ => hf.get t) hok2 r fun ρ' w' d v s' h1 h2 h3 h4 => ?_
      obtain ⟨h5, h6⟩ := tput_eq h4
      exact ih2 (i + 1) hl2 _ _ ρ' w' s' h5 h2 ((hf.mono h1).put h3 h6) (by rw [Fr.put_rnd]; exact hr) (hn.le h1)
    | false =>
      simp only [Bool.false_eq_true, if_false]
      obtain ⟨h5, h6⟩ := tput_eq hok2
      exact ⟨fun _ _ => trivial, ih2 (i + 1) hl2 _ _ ρ w s h5 r (hf.put un_rel h6) (by rw [Fr.put_rnd]; exact hr) hn⟩
theorem region_sound {ih : IH} (he : EOk P E) (hgl : E.gl ≤ nb) (hc : CallsOk P E nb base w0 ih) {n : Nat} {ro : Option Nat} {id : Nat} {ops : Array Oper} {Q : Exit → Act → World → Prop} {c : Fr → HM} {fr : Fr} {a : Act}
    (hok : Ok nb (opsX E ih ops.toList ops.toList fr c) s outs) (r : Rel P nb base w0 ρ s.h w) (hf : FRel ρ fr a) (hn : CGoes P nb base w0 ρ fr.rnd c outs (Q .normal)) : (Code.region id ops false).wpIn (Fw ro) n P Q a w := by
  have := ops_sound (ro := ro) (n := n) he hgl hc ops.toList 0 rfl fr a ρ w s hok r hf rfl hn
  refine wpIn_region ?_
  rw [List.range_eq_range']
  simpa using this
end Go.Proofs.YtcongfiojbajeaaD

/- A region that draws its order: whatever the order, it comes to what the small machine's own order comes to. Part 1: what the small machine has seen. Conditions: none. -/
namespace Go.Proofs.YtcongfiojbajeaaD
open Go Go.RowKit
set_option linter.unusedVariables false
set_option linter.unusedSimpArgs false
variable {P : Program} {E : Env} {nb base : Nat} {w0 w : World} {ρ : Rho} {s : St} {outs : Outs}

structure Stp where
  fr : Fr
  h : T AObj
  v : DVal
  rd : List Nat
  wr : List Nat
  pre : Nat
  t : Bool
/-- One step of the small machine's own order. -/
structure StepAt (nb : Nat) (E : Env) (ih : IH) (ops : Array Oper) (D : Nat → Stp) (k : Nat) (o : Oper) : Prop where
  fr : (D (k + 1)).fr = (D k).fr.put o.dst (D k).v
  dst : ∀ d, o.dst = some d → d < (D k).fr.n
  wanted : ∀ (ρ : Rho) (a : Act), (∀ t ∈ o.looksAt ops, VRel ρ (tget (D k).fr t) (a.tmps.getD t undef)) → Region.wanted o (yielded ops a.tmps) = (D k).t
  off : (D k).t = false → (D k).v = dU ∧ (D (k + 1)).h = (D k).h ∧ (D k).rd = [] ∧ (D k).wr = []
  on : (D k).t = true → ∃ n, ∀ h2, Agree (D k).rd (D k).wr (D k).h h2 → Ok nb (opX o.op E ih (D k).fr fun v => .ret v) ⟨h2, n⟩ fun v' h2' _ => v' = (D k).v ∧ MovedW (D k).wr (D k).h (D (k + 1)).h h2 h2'
  pre : (D k).pre = preOf o.after.toList ((List.range k).map fun j => (D j).pre)
  clash : (D k).t = true → ∀ j, j < k → Nat.testBit (D k).pre j = false → (∀ x ∈ (D k).wr, x ∉ (D j).rd ∧ x ∉ (D j).wr) ∧ (∀ x ∈ (D j).wr, x ∉ (D k).rd)
theorem meets_iff (a b : List Nat) : meets a b = true ↔ ∃ x ∈ a, x ∈ b := by
  induction a with
  | nil => simp [meets]
  | cons x a ih =>
    show Bool.or (nmem x b) (meets a b) = true ↔ _
    rw [show (Bool.or (nmem x b) (meets a b) = true) = (nmem x b = true ∨ meets a b = true) by cases nmem x b <;> simp, nmem_iff, ih]; simp
theorem clashX_ok {pre : Nat} {rd wr : List Nat} : ∀ (l : List (List Nat × List Nat)) (j : Nat), clashX pre rd wr l j = false → ∀ k p, l[k]? = some p → Nat.testBit pre (j + k) = false →
    (∀ x ∈ wr, x ∉ p.1 ∧ x ∉ p.2) ∧ (∀ x ∈ p.2, x ∉ rd) := by
  intro l
  induction l with
  | nil => intro j _ k p h; simp at h
  | cons q l ih =>
    intro j hc k p hp hb
    have hc : Bool.or (Bool.rec (Prod.rec (fun r w => Bool.or (meets wr r) (Bool.or (meets wr w) (meets w rd))) q) false (Nat.testBit pre j)) (clashX pre rd wr l (j + 1)) = false := hc
    have h1 : (Bool.rec (Prod.rec (fun r w => Bool.or (meets wr r) (Bool.or (meets wr w) (meets w rd))) q) false (Nat.testBit pre j) : Bool) = false ∧ clashX pre rd wr l (j + 1) = false := by
      revert hc
      generalize (Bool.rec (Prod.rec (fun r w => Bool.or (meets wr r) (Bool.or (meets wr w) (meets w rd))) q) false (Nat.testBit pre j) : Bool) = x
      generalize clashX pre rd wr l (j + 1) = y
      cases x <;> cases y <;> simp
    cases k with
    | zero =>
      obtain rfl : q = p := by simpa using hp
      rw [Nat.add_zero] at hb
      have h2 := h1.1
      rw [hb] at h2
      obtain ⟨r, ww⟩ := q
      have h2 : Bool.or (meets wr r) (Bool.or (meets wr ww) (meets ww rd)) = false := h2
      have h3 : meets wr r = false ∧ meets wr ww = false ∧ meets ww rd = false := by
        revert h2
        cases meets wr r <;> cases meets wr ww <;> cases meets ww rd <;> simp
      have no : ∀ a b, meets a b = false → ∀ x ∈ a, x ∉ b := fun a b h x hx hxb => by
        have := (meets_iff a b).2 ⟨x, hx, hxb⟩
        rw [h] at this; cases this
      exact ⟨fun x hx => ⟨no _ _ h3.1 x hx, no _ _ h3.2.1 x hx⟩, no _ _ h3.2.2⟩
    | succ k => exact ih (j + 1) h1.2 k p (by simpa using hp) (by rw [show j + 1 + k = j + (k + 1) by omega]; exact hb)
theorem range_get {α : Type} (f : Nat → α) (i k : Nat) (h : k < i) : ((List.range i).map f)[k]? = some (f k) := by simp [h]
theorem draw_steps {ih : IH} {ops : Array Oper} {c : Fr → HM} : ∀ (l : List Oper) (i : Nat), ops.toList.drop i = l → ∀ (D0 : Nat → Stp) (s : St), Ok nb (drawX E ih ops.toList l ((List.range i).map fun k => (D0 k).pre) ((List.range i).map fun k => ((D0 k).rd, (D0 k).wr)) (D0 i).fr c) s outs →
    (D0 i).h = s.h → ∃ D : Nat → Stp, (∀ k, k < i → D k = D0 k) ∧ (D i).fr = (D0 i).fr ∧ (D i).h = (D0 i).h ∧ (∀ k o, i ≤ k → ops[k]? = some o → StepAt nb E ih ops D k o) ∧
      ∃ n, Ok nb (c (D (i + l.length)).fr) ⟨(D (i + l.length)).h, n⟩ outs := by
  intro l
  induction l with
  | nil =>
    intro i hl D0 s hok hh
    refine ⟨D0, fun _ _ => rfl, rfl, rfl, fun k o hk ho => ?_, s.n, by rw [List.length_nil, Nat.add_zero, hh]; exact hok⟩
    have : ops.toList.length ≤ i := List.drop_eq_nil_iff.1 hl
    have := (Array.getElem?_eq_some_iff.1 ho).1
    simp at *; omega
  | cons o l ih2 =>
    intro i hl D0 s hok hh
    have ho : ops[i]? = some o := by
      rw [← Array.getElem?_toList]
      have := congrArg (·[0]?) hl
      simpa using this
    have hl2 : ops.toList.drop (i + 1) = l := by rw [← List.drop_drop, hl]; rfl
    generalize hms : (List.range i).map (fun k => (D0 k).pre) = ms at hok
    generalize hlg : (List.range i).map (fun k => ((D0 k).rd, (D0 k).wr)) = lg at hok
    have hok1 : Ok nb (fN (preOf o.after.toList ms) fun pre => lapp ms [pre] fun ms => wantedC ops.toList (D0 i).fr o.guard fun t =>
        Bool.rec (lapp lg [([], [])] fun lg => tput (D0 i).fr o.dst dU fun fr => drawX E ih ops.toList l ms lg fr c)
          (HM.sub true (opX o.op E ih (D0 i).fr fun v => .ret v) fun v rd wr => Bool.rec (lapp lg [(rd, wr)] fun lg => tput (D0 i).fr o.dst v fun fr => drawX E ih ops.toList l ms lg fr c) .fail (clashX pre rd wr lg 0)) t) s outs := by
      cases o; exact hok
    have hok1 := Ok_fN hok1
    rw [lapp_eq] at hok1
    obtain ⟨t, hok2, hw⟩ := wanted_ok hok1
    -- what follows, once the step's record stands
    have go : ∀ (v : DVal) (rd wr : List Nat) (h' : T AObj) (n' : Nat), Ok nb (tput (D0 i).fr o.dst v fun fr => drawX E ih ops.toList l (ms ++ [preOf o.after.toList ms]) (lg ++ [(rd, wr)]) fr c) ⟨h', n'⟩ outs →
        (t = false → v = dU ∧ h' = s.h ∧ rd = [] ∧ wr = []) →
        (t = true → ∃ n, ∀ h2, Agree rd wr s.h h2 → Ok nb (opX o.op E ih (D0 i).fr fun v => .ret v) ⟨h2, n⟩ fun v' h2' _ => v' = v ∧ MovedW wr s.h h' h2 h2') →
        (t = true → clashX (preOf o.after.toList ms) rd wr lg 0 = false) →
        ∃ D : Nat → Stp, (∀ k, k < i → D k = D0 k) ∧ (D i).fr = (D0 i).fr ∧ (D i).h = (D0 i).h ∧ (∀ k o, i ≤ k → ops[k]? = some o → StepAt nb E ih ops D k o) ∧
          ∃ n, Ok nb (c (D (i + (o :: l).length)).fr) ⟨(D (i + (o :: l).length)).h, n⟩ outs := by
      intro v rd wr h' n' h1 h2 h3 h4
      obtain ⟨h5, h6⟩ := tput_eq h1
      let p : Stp := ⟨(D0 i).fr, s.h, v, rd, wr, preOf o.after.toList ms, t⟩
      let q : Stp := ⟨(D0 i).fr.put o.dst v, h', v, [], [], 0, t⟩
      let D1 : Nat → Stp := fun k => if k = i then p else if k = i + 1 then q else D0 k
      have e0 : ∀ k, k < i → D1 k = D0 k := fun k hk => by
        show (if k = i then p else if k = i + 1 then q else D0 k) = _
        rw [if_neg (by omega), if_neg (by omega)]
      have e1 : D1 i = p := by show (if i = i then p else _) = _; rw [if_pos rfl]
      have e2 : D1 (i + 1) = q := by show (if i + 1 = i then p else if i + 1 = i + 1 then q else _) = _; rw [if_neg (by omega), if_pos rfl]
      have e3 : ∀ {β : Type} (f : Stp → β), (List.range (i + 1)).map (fun k => f (D1 k)) = (List.range i).map (fun k => f (D0 k)) ++ [f p] := fun f => by
        rw [List.range_succ, List.map_append, List.map_singleton, e1]
        congr 1
        exact List.map_congr_left fun k hk => by rw [e0 k (by simpa using hk)]
      obtain ⟨D, d1, d2, d3, d4, d5⟩ := ih2 (i + 1) hl2 D1 ⟨h', n'⟩ (by rw [e3 (·.pre), e3 fun p => (p.rd, p.wr), hms, hlg, e2]; exact h5) (by rw [e2])
      have dp : D i = p := by rw [d1 i (by omega), e1]
      have dq : (D (i + 1)).fr = q.fr ∧ (D (i + 1)).h = q.h := ⟨by rw [d2, e2], by rw [d3, e2]⟩
      have dk : ∀ k, k < i → D k = D0 k := fun k hk => by rw [d1 k (by omega), e0 k hk]
      refine ⟨D, dk, by rw [dp], by rw [dp, hh], fun k o' hk ho' => ?_, ?_⟩
      · by_cases hki : k = i
        · subst hki
          rw [ho] at ho'
          obtain rfl := Option.some.inj ho'
          have em : (List.range k).map (fun j => (D j).pre) = ms := by rw [← hms]; exact List.map_congr_left fun j hj => by rw [dk j (by simpa using hj)]
          refine ⟨by rw [dq.1, dp], by rw [dp]; exact h6, by rw [dp]; exact hw, by rw [dp, dq.2]; exact h2, by rw [dp, dq.2]; exact h3, by rw [dp, em], fun ht j hj hb => ?_⟩
          rw [dp] at ht hb ⊢
          rw [dk j hj]
          exact clashX_ok lg 0 (h4 ht) j ((D0 j).rd, (D0 j).wr) (by rw [← hlg]; exact range_get _ _ _ hj) (by rw [Nat.zero_add]; exact hb)
        · exact d4 k o' (by omega) ho'
      · rw [show i + (o :: l).length = i + 1 + l.length by simp; omega]; exact d5
    cases t with
    | false =>
      have hok3 : Ok nb (lapp lg [([], [])] fun lg => tput (D0 i).fr o.dst dU fun fr => drawX E ih ops.toList l (ms ++ [preOf o.after.toList ms]) lg fr c) s outs := hok2
      rw [lapp_eq] at hok3
      exact go dU [] [] s.h s.n hok3 (fun _ => ⟨rfl, rfl, rfl, rfl⟩) (fun h => by cases h) (fun h => by cases h)
    | true =>
      obtain ⟨v, h', n', rd, wr, g1, g2⟩ := Ok_sub_log (show Ok nb (HM.sub true (opX o.op E ih (D0 i).fr fun v => .ret v) fun v rd wr => Bool.rec (lapp lg [(rd, wr)] fun lg => tput (D0 i).fr o.dst v fun fr => drawX E ih ops.toList l (ms ++ [preOf o.after.toList ms]) lg fr c) .fail (clashX (preOf o.after.toList ms) rd wr lg 0)) s outs from hok2)
      rcases Ok_brec g2 with ⟨_, g3⟩ | ⟨hcl, g3⟩
      · exact (Ok_fail g3).elim
      · rw [lapp_eq] at g3
        exact go v rd wr h' n' g3 (fun h => by cases h) (fun _ => ⟨s.n, fun h2 ha => (g1 h2 ha).mono fun v' h2' n'' ⟨x, _, y⟩ => ⟨x, y⟩⟩) (fun _ => hcl)
end Go.Proofs.YtcongfiojbajeaaD

/- A region that draws its order: whatever the order, it comes to what the small machine's own order comes to. Part 2: what has been done so far. Conditions: none. -/
namespace Go.Proofs.YtcongfiojbajeaaD
open Go Go.RowKit
set_option linter.unusedVariables false
set_option linter.unusedSimpArgs false
variable {P : Program} {E : Env} {nb base : Nat} {w0 w : World} {ρ : Rho} {s : St} {outs : Outs}

/-- What lies in a block, of the first k operations those in L done. -/
noncomputable def spH (D : Nat → Stp) (L : Nat → Bool) (b : Nat) : Nat → Option AObj
  | 0 => T.get (D 0).h b
  | k + 1 => if L k = true ∧ b ∈ (D k).wr then T.get (D (k + 1)).h b else spH D L b k
noncomputable def spT (ops : Array Oper) (D : Nat → Stp) (L : Nat → Bool) (t : Nat) : Nat → DVal
  | 0 => tget (D 0).fr t
  | k + 1 => if L k = true ∧ (ops[k]?).bind (·.dst) = some t then (D k).v else spT ops D L t k
theorem spH_succ (D : Nat → Stp) (L : Nat → Bool) (b k : Nat) : spH D L b (k + 1) = if L k = true ∧ b ∈ (D k).wr then T.get (D (k + 1)).h b else spH D L b k := rfl
theorem spT_succ (ops : Array Oper) (D : Nat → Stp) (L : Nat → Bool) (t k : Nat) : spT ops D L t (k + 1) = if L k = true ∧ (ops[k]?).bind (·.dst) = some t then (D k).v else spT ops D L t k := rfl
/-- The order's bonds: each operation is bound to earlier ones alone, and to each that touches its temporaries. -/
structure RegOk (ops : Array Oper) (D : Nat → Stp) : Prop where
  edge : ∀ k o, ops[k]? = some o → ∀ e ∈ o.after, Region.binds .any e = true → e.on < k
  apart : ∀ j k oj ok, j < k → ops[j]? = some oj → ops[k]? = some ok → Nat.testBit (D k).pre j = false → oj.apart ops ok = true
def Closed (m : Nat) (D : Nat → Stp) (L : Nat → Bool) : Prop := ∀ k, k < m → L k = true → ∀ j, Nat.testBit (D k).pre j = true → L j = true
section
variable {ih : IH} {ops : Array Oper} {D : Nat → Stp} {L : Nat → Bool}
theorem step_h (hD : ∀ k o, ops[k]? = some o → StepAt nb E ih ops D k o) {k : Nat} (hk : k < ops.size) {b : Nat} (hb : 1 ≤ b) (hw : b ∉ (D k).wr) : T.get (D (k + 1)).h b = T.get (D k).h b := by
  have st := hD k ops[k] (by simp [hk])
  cases ht : (D k).t with
  | false => rw [(st.off ht).2.1]
  | true =>
    obtain ⟨n, hn⟩ := st.on ht
    obtain ⟨v, h2, n2, _, hm⟩ := (hn (D k).h fun _ _ _ => rfl).some
    rcases hm b hb with ⟨h, _⟩ | ⟨_, h⟩
    · exact h
    · exact absurd h hw
theorem step_t (hD : ∀ k o, ops[k]? = some o → StepAt nb E ih ops D k o) {k : Nat} (hk : k < ops.size) {t : Nat} : tget (D (k + 1)).fr t = if (ops[k]?).bind (·.dst) = some t then (D k).v else tget (D k).fr t := by
  have ho : ops[k]? = some ops[k] := by simp [hk]
  rw [(hD k _ ho).fr, tget_put, ho]; rfl
/-- All of the first k done. -/
theorem spH_all (hD : ∀ k o, ops[k]? = some o → StepAt nb E ih ops D k o) {b : Nat} (hb : 1 ≤ b) : ∀ k, k ≤ ops.size → (∀ j, j < k → L j = true ∨ b ∉ (D j).wr) → spH D L b k = T.get (D k).h b := by
  intro k
  induction k with
  | zero => intro _ _; rfl
  | succ k ihk =>
    intro hk hL
    have := ihk (by omega) fun j hj => hL j (by omega)
    rw [spH_succ]
    by_cases hw : b ∈ (D k).wr
    · have hlk : L k = true := (hL k (by omega)).resolve_right (fun h => h hw)
      rw [if_pos ⟨hlk, hw⟩]
    · rw [if_neg (fun h => hw h.2), this, step_h hD (by omega) hb hw]
theorem spT_all (hD : ∀ k o, ops[k]? = some o → StepAt nb E ih ops D k o) {t : Nat} : ∀ k, k ≤ ops.size → (∀ j, j < k → L j = true ∨ (ops[j]?).bind (·.dst) ≠ some t) → spT ops D L t k = tget (D k).fr t := by
  intro k
  induction k with
  | zero => intro _ _; rfl
  | succ k ihk =>
    intro hk hL
    have := ihk (by omega) fun j hj => hL j (by omega)
    rw [spT_succ]
    rw [step_t hD (by omega)]
    by_cases hw : (ops[k]?).bind (·.dst) = some t
    · have hlk : L k = true := (hL k (by omega)).resolve_right (fun h => h hw)
      rw [if_pos ⟨hlk, hw⟩, if_pos hw]
    · rw [if_neg (fun h => hw h.2), if_neg hw, this]
/-- From i on nothing that is done touches it. -/
theorem spH_stop {b i : Nat} : ∀ d, (∀ k, i ≤ k → k < i + d → L k = true → b ∉ (D k).wr) → spH D L b (i + d) = spH D L b i := by
  intro d
  induction d with
  | zero => intro _; rfl
  | succ d ihd =>
    intro h
    show spH D L b (i + d + 1) = _
    rw [spH_succ, if_neg (fun hh => h (i + d) (by omega) (by omega) hh.1 hh.2)]
    exact ihd fun k h1 h2 => h k h1 (by omega)
theorem spT_stop {t i : Nat} : ∀ d, (∀ k, i ≤ k → k < i + d → L k = true → (ops[k]?).bind (·.dst) ≠ some t) → spT ops D L t (i + d) = spT ops D L t i := by
  intro d
  induction d with
  | zero => intro _; rfl
  | succ d ihd =>
    intro h
    show spT ops D L t (i + d + 1) = _
    rw [spT_succ, if_neg (fun hh => h (i + d) (by omega) (by omega) hh.1 hh.2)]
    exact ihd fun k h1 h2 => h k h1 (by omega)
open Classical in
/-- One more done: i. -/
theorem spH_set {b i : Nat} (hi : L i = false) : ∀ k, spH D (fun j => if j = i then true else L j) b k = if i < k ∧ b ∈ (D i).wr ∧ (∀ j, i < j → j < k → L j = true → b ∉ (D j).wr) then T.get (D (i + 1)).h b else spH D L b k := by
  intro k
  induction k with
  | zero => rw [if_neg (by omega)]; rfl
  | succ k ihk =>
    rw [spH_succ, spH_succ, ihk]
    by_cases hki : k = i
    · subst hki
      simp only [if_true, true_and, hi]
      by_cases hw : b ∈ (D k).wr
      · rw [if_pos hw, if_pos ⟨by omega, hw, fun j h1 h2 => by omega⟩]
      · rw [if_neg hw, if_neg (fun h => by omega), if_neg (fun h => hw h.2.1), if_neg (by simp)]
    · rw [if_neg hki]
      by_cases hk : L k = true ∧ b ∈ (D k).wr
      · rw [if_pos hk, if_pos hk]
        by_cases hc : i < k + 1 ∧ b ∈ (D i).wr ∧ (∀ j, i < j → j < k + 1 → L j = true → b ∉ (D j).wr)
        · exact absurd hk.2 (hc.2.2 k (by omega) (by omega) hk.1)
        · rw [if_neg hc]
      · rw [if_neg hk, if_neg hk]
        by_cases hc : i < k ∧ b ∈ (D i).wr ∧ (∀ j, i < j → j < k → L j = true → b ∉ (D j).wr)
        · rw [if_pos hc, if_pos ⟨by omega, hc.2.1, fun j h1 h2 h3 h4 => by
            by_cases hjk : j = k
            · subst hjk; exact hk ⟨h3, h4⟩
            · exact hc.2.2 j h1 (by omega) h3 h4⟩]
        · rw [if_neg hc, if_neg (fun h => hc ⟨by omega, h.2.1, fun j h1 h2 h3 => h.2.2 j h1 (by omega) h3⟩)]
open Classical in
theorem spT_set {t i : Nat} (hi : L i = false) : ∀ k, spT ops D (fun j => if j = i then true else L j) t k = if i < k ∧ (ops[i]?).bind (·.dst) = some t ∧ (∀ j, i < j → j < k → L j = true → (ops[j]?).bind (·.dst) ≠ some t) then (D i).v else spT ops D L t k := by
  intro k
  induction k with
  | zero => rw [if_neg (by omega)]; rfl
  | succ k ihk =>
    rw [spT_succ, spT_succ, ihk]
    by_cases hki : k = i
    · subst hki
      simp only [if_true, true_and, hi]
      by_cases hw : (ops[k]?).bind (·.dst) = some t
      · rw [if_pos hw, if_pos ⟨by omega, hw, fun j h1 h2 => by omega⟩]
      · rw [if_neg hw, if_neg (fun h => by omega), if_neg (fun h => hw h.2.1), if_neg (by simp)]
    · rw [if_neg hki]
      by_cases hk : L k = true ∧ (ops[k]?).bind (·.dst) = some t
      · rw [if_pos hk, if_pos hk]
        by_cases hc : i < k + 1 ∧ (ops[i]?).bind (·.dst) = some t ∧ (∀ j, i < j → j < k + 1 → L j = true → (ops[j]?).bind (·.dst) ≠ some t)
        · exact absurd hk.2 (hc.2.2 k (by omega) (by omega) hk.1)
        · rw [if_neg hc]
      · rw [if_neg hk, if_neg hk]
        by_cases hc : i < k ∧ (ops[i]?).bind (·.dst) = some t ∧ (∀ j, i < j → j < k → L j = true → (ops[j]?).bind (·.dst) ≠ some t)
        · rw [if_pos hc, if_pos ⟨by omega, hc.2.1, fun j h1 h2 h3 h4 => by
            by_cases hjk : j = k
            · subst hjk; exact hk ⟨h3, h4⟩
            · exact hc.2.2 j h1 (by omega) h3 h4⟩]
        · rw [if_neg hc, if_neg (fun h => hc ⟨by omega, h.2.1, fun j h1 h2 h3 => h.2.2 j h1 (by omega) h3⟩)]
end
end Go.Proofs.YtcongfiojbajeaaD

/- A region that draws its order: whatever the order, it comes to what the small machine's own order comes to. Part 3: all orders. Conditions: none. -/
namespace Go.Proofs.YtcongfiojbajeaaD
open Go Go.RowKit
set_option linter.unusedVariables false
set_option linter.unusedSimpArgs false
variable {P : Program} {E : Env} {nb base : Nat} {w0 w : World} {ρ : Rho} {s : St} {outs : Outs}

theorem ms_get (ms : List Nat) : ∀ (i : Nat), (List.rec (motive := fun _ => Nat → Nat) (fun _ => 0) (fun m _ ihm i => Nat.rec m (fun j _ => ihm j) i) ms i : Nat) = ms[i]?.getD 0 := by
  induction ms with
  | nil => intro i; rfl
  | cons m ms ih =>
    intro i
    cases i with
    | zero => rfl
    | succ i => exact ih i
theorem preOf_bits (ms : List Nat) (j : Nat) : ∀ (es : List Edge), Nat.testBit (preOf es ms) j = true → ∃ e ∈ es, Region.binds .any e = true ∧ (j = e.on ∨ Nat.testBit (ms[e.on]?.getD 0) j = true) := by
  intro es
  induction es with
  | nil => intro h; simp [preOf] at h
  | cons e es ih =>
    intro h
    obtain ⟨on, gr⟩ := e
    have key : Nat.testBit (Nat.lor (preOf es ms) (Nat.lor (Nat.shiftLeft 1 on) (ms[on]?.getD 0))) j = true → Region.binds .any ⟨on, gr⟩ = true →
        ∃ e ∈ (⟨on, gr⟩ : Edge) :: es, Region.binds .any e = true ∧ (j = e.on ∨ Nat.testBit (ms[e.on]?.getD 0) j = true) := by
      intro h hb
      have h : Nat.testBit (preOf es ms ||| ((1 <<< on) ||| (ms[on]?.getD 0))) j = true := h
      rw [Nat.testBit_or, Nat.testBit_or, Bool.or_eq_true, Bool.or_eq_true] at h
      rcases h with h | h | h
      · obtain ⟨e, he, q⟩ := ih h; exact ⟨e, List.mem_cons_of_mem _ he, q⟩
      · refine ⟨⟨on, gr⟩, by simp, hb, .inl ?_⟩
        rw [Nat.testBit_shiftLeft] at h
        simp only [Bool.and_eq_true, decide_eq_true_eq] at h
        have h2 := h.2
        rw [show (1 : Nat) = 2 ^ 0 from rfl, Nat.testBit_two_pow] at h2
        simp at h2
        show j = on
        omega
      · exact ⟨⟨on, gr⟩, by simp, hb, .inr h⟩
    have skip : preOf (⟨on, gr⟩ :: es) ms = preOf es ms → ∃ e ∈ (⟨on, gr⟩ : Edge) :: es, Region.binds .any e = true ∧ (j = e.on ∨ Nat.testBit (ms[e.on]?.getD 0) j = true) := fun e => by
      rw [e] at h
      obtain ⟨e, he, q⟩ := ih h; exact ⟨e, List.mem_cons_of_mem _ he, q⟩
    cases gr with
    | textOnly d => exact skip rfl
    | gcOnly d => exact skip rfl
    | _ => exact key (by rw [← ms_get]; exact h) rfl
section
variable {ih : IH} {ops : Array Oper} {D : Nat → Stp} {n : Nat} {ro : Option Nat} {Q : Exit → Act → World → Prop} {c : Fr → HM} {rnd : Option Nat}
theorem frames_same (hD : ∀ k o, ops[k]? = some o → StepAt nb E ih ops D k o) : ∀ k, k ≤ ops.size → (D k).fr.n = (D 0).fr.n ∧ (D k).fr.dfs = (D 0).fr.dfs ∧ (D k).fr.rnd = (D 0).fr.rnd := by
  intro k
  induction k with
  | zero => intro _; exact ⟨rfl, rfl, rfl⟩
  | succ k ihk =>
    intro hk
    obtain ⟨h1, h2, h3⟩ := ihk (by omega)
    have hk2 : k < ops.size := by omega
    have st := hD k ops[k] (by simp [hk2])
    rw [st.fr, Fr.put_n, Fr.put_dfs, Fr.put_rnd]; exact ⟨h1, h2, h3⟩
/-- What stands when those of L are done. -/
structure Done (P : Program) (nb base : Nat) (w0 : World) (ops : Array Oper) (D : Nat → Stp) (L : Nat → Bool) (ρ : Rho) (a : Act) (w : World) (hS : T AObj) : Prop where
  closed : Closed ops.size D L
  heap : ∀ b, 1 ≤ b → T.get hS b = spH D L b ops.size
  rel : Rel P nb base w0 ρ hS w
  size : a.tmps.size = (D 0).fr.n
  tmps : ∀ t, VRel ρ (spT ops D L t ops.size) (a.tmps.getD t undef)
  defs : DfRel ρ (D 0).fr.dfs a.defers
theorem done_all (hD : ∀ k o, ops[k]? = some o → StepAt nb E ih ops D k o) {nn : Nat} (hend : Ok nb (c (D ops.size).fr) ⟨(D ops.size).h, nn⟩ outs) (hn : CGoes P nb base w0 ρ (D 0).fr.rnd c outs (Q .normal))
    {L : Nat → Bool} (hL : ∀ k, k < ops.size → L k = true) {ρ' : Rho} {a : Act} {hS : T AObj} (hle : ρ.le ρ') (d : Done P nb base w0 ops D L ρ' a w hS) : Q .normal a w := by
  obtain ⟨f1, f2, f3⟩ := frames_same hD ops.size (Nat.le_refl _)
  refine hn ρ' (D ops.size).fr a w ⟨(D ops.size).h, nn⟩ hle ?_ ⟨⟨by rw [d.size, f1], fun t => ?_⟩, by rw [f2]; exact d.defs⟩ f3 hend
  · exact d.rel.congr fun b hb => by rw [d.heap b hb, spH_all hD hb _ (Nat.le_refl _) fun j hj => .inl (hL j hj)]
  · rw [← tget_eq, ← spT_all hD _ (Nat.le_refl _) fun j hj => .inl (hL j hj)]; exact d.tmps t
/-- A ready operation: what it looks at is what the small machine's looked at. -/
theorem ready_at (hD : ∀ k o, ops[k]? = some o → StepAt nb E ih ops D k o) (hR : RegOk ops D) {L : Nat → Bool} (hcl : Closed ops.size D L) {i : Nat} {o : Oper} (ho : ops[i]? = some o) (hi : L i = false)
    (hpre : ∀ j, Nat.testBit (D i).pre j = true → L j = true) :
    (∀ t ∈ o.looksAt ops, spT ops D L t ops.size = tget (D i).fr t) ∧
    ((D i).t = true → ∀ b, 1 ≤ b → (b ∈ (D i).rd ∨ b ∈ (D i).wr) → spH D L b ops.size = T.get (D i).h b) ∧
    (∀ k, i < k → k < ops.size → L k = true → ∀ b, b ∈ (D i).wr → b ∉ (D k).wr) ∧
    (∀ k, i < k → k < ops.size → L k = true → ∀ t, o.dst = some t → (ops[k]?).bind (·.dst) ≠ some t) := by
  have him := (Array.getElem?_eq_some_iff.1 ho).1
  -- a later one that is done is not bound to it
  have later : ∀ k, i < k → k < ops.size → L k = true → Nat.testBit (D k).pre i = false := fun k h1 h2 h3 => by
    cases hb : Nat.testBit (D k).pre i with
    | false => rfl
    | true => have := hcl k h2 h3 i hb; rw [hi] at this; cases this
  have earlier : ∀ k, k < i → L k = true ∨ Nat.testBit (D i).pre k = false := fun k h1 => by
    cases hb : Nat.testBit (D i).pre k with
    | false => exact .inr rfl
    | true => exact .inl (hpre k hb)
  have noL : ∀ k, i ≤ k → L k = true → i < k := fun k h1 h2 => by
    rcases Nat.lt_or_ge i k with h | h
    · exact h
    · have : k = i := by omega
      subst this; rw [hi] at h2; cases h2
  have wrs : ∀ k, i < k → k < ops.size → L k = true → ∀ b, (b ∈ (D i).rd ∨ b ∈ (D i).wr) → b ∉ (D k).wr := fun k h1 h2 h3 b hb hw => by
    have st := hD k ops[k] (by simp [h2])
    cases ht : (D k).t with
    | false => rw [(st.off ht).2.2.2] at hw; cases hw
    | true =>
      have := (st.clash ht i h1 (later k h1 h2 h3)).1 b hw
      exact hb.elim this.1 this.2
  have dsts : ∀ k, i < k → k < ops.size → L k = true → o.apart ops ops[k]! = true := fun k h1 h2 h3 => by
    have : ops[k]! = ops[k] := by simp [h2]
    rw [this]; exact hR.apart i k o ops[k] h1 ho (by simp [h2]) (later k h1 h2 h3)
  refine ⟨fun t ht => ?_, fun hti b hb hin => ?_, fun k h1 h2 h3 b hb => wrs k h1 h2 h3 b (.inr hb), fun k h1 h2 h3 t ht hk => ?_⟩
  · have e : ops.size = i + (ops.size - i) := by omega
    have g1 : ∀ k, i ≤ k → k < i + (ops.size - i) → L k = true → (ops[k]?).bind (·.dst) ≠ some t := fun k h1 h2 h3 hk => by
      have h1 := noL k h1 h3
      have hks : k < ops.size := by omega
      have hk2 : ops[k]? = some ops[k] := by simp [hks]
      rw [hk2] at hk
      exact (Oper.apart_spec (dsts k h1 hks h3)).2.2 t (by simpa [hks] using hk) ht
    have g2 : ∀ j, j < i → L j = true ∨ (ops[j]?).bind (·.dst) ≠ some t := fun j hj => by
      rcases earlier j hj with h | h
      · exact .inl h
      · refine .inr fun hk => ?_
        have hjs : j < ops.size := by omega
        have hj2 : ops[j]? = some ops[j] := by simp [hjs]
        rw [hj2] at hk
        exact (Oper.apart_spec (hR.apart j i ops[j] o hj hj2 ho h)).1 t (by simpa using hk) ht
    rw [e, spT_stop (ops.size - i) g1, spT_all hD i (by omega) g2]
  · have e : ops.size = i + (ops.size - i) := by omega
    have g2 : ∀ j, j < i → L j = true ∨ b ∉ (D j).wr := fun j hj => by
      rcases earlier j hj with h | h
      · exact .inl h
      · obtain ⟨c1, c2⟩ := (hD i o ho).clash hti j hj h
        refine .inr fun hw => ?_
        rcases hin with h | h
        · exact c2 b hw h
        · exact (c1 b h).2 hw
    rw [e, spH_stop (ops.size - i) fun k h1 h2 h3 => wrs k (noL k h1 h3) (by omega) h3 b hin, spH_all hD hb i (by omega) g2]
  · have := (Oper.apart_spec (dsts k h1 h2 h3)).2.1 t ht
    have hk2 : ops[k]? = some ops[k] := by simp [h2]
    rw [hk2] at hk
    exact this (by simpa [h2] using hk)
/-- One more done. -/
theorem done_more (hD : ∀ k o, ops[k]? = some o → StepAt nb E ih ops D k o) (hR : RegOk ops D) {L : Nat → Bool} {i : Nat} {o : Oper} (ho : ops[i]? = some o) (hi : L i = false) (hpre : ∀ j, Nat.testBit (D i).pre j = true → L j = true)
    {ρ1 ρ2 : Rho} {a : Act} {hS h2 : T AObj} {w1 w2 : World} (d : Done P nb base w0 ops D L ρ1 a w1 hS) (hle : ρ1.le ρ2) (hrel : Rel P nb base w0 ρ2 h2 w2) {v : Value} (hv : VRel ρ2 (D i).v v)
    (hm : ∀ b, 1 ≤ b → T.get h2 b = if b ∈ (D i).wr then T.get (D (i + 1)).h b else T.get hS b) : Done P nb base w0 ops D (fun j => if j = i then true else L j) ρ2 (a.put o.dst v) w2 h2 := by
  have him := (Array.getElem?_eq_some_iff.1 ho).1
  obtain ⟨_, _, r3, r4⟩ := ready_at hD hR d.closed ho hi hpre
  obtain ⟨f1, f2, f3⟩ := frames_same hD i (by omega)
  refine ⟨fun k hk hL j hj => ?_, fun b hb => ?_, hrel, by rw [put_size]; exact d.size, fun t => ?_, by rw [put_defs]; exact d.defs.mono hle⟩
  · by_cases hji : j = i
    · simp [hji]
    · simp only [hji, if_false]
      by_cases hki : k = i
      · subst hki; exact hpre j hj
      · simp only [hki, if_false] at hL
        exact d.closed k hk hL j hj
  · rw [spH_set hi, hm b hb]
    by_cases hw : b ∈ (D i).wr
    · rw [if_pos hw, if_pos ⟨him, hw, fun j h1 h2 h3 => r3 j h1 h2 h3 b hw⟩]
    · rw [if_neg hw, if_neg (fun h => hw h.2.1)]; exact d.heap b hb
  · rw [spT_set hi, put_get _ _ _ _ (fun t e => by rw [d.size, ← f1]; exact (hD i o ho).dst t e)]
    have e : (ops[i]?).bind (·.dst) = o.dst := by rw [ho]; rfl
    by_cases hw : o.dst = some t
    · rw [if_pos hw, if_pos ⟨him, by rw [e]; exact hw, fun j h1 h2 h3 => r4 j h1 h2 h3 t hw⟩]; exact hv
    · rw [if_neg hw, if_neg (fun h => hw (by rw [← e]; exact h.2.1))]; exact (d.tmps t).mono hle _ _
end
end Go.Proofs.YtcongfiojbajeaaD

/- A region that draws its order: whatever the order, it comes to what the small machine's own order comes to. Part 4. Conditions: none. -/
namespace Go.Proofs.YtcongfiojbajeaaD
open Go Go.RowKit
set_option linter.unusedVariables false
set_option linter.unusedSimpArgs false
variable {P : Program} {E : Env} {nb base : Nat} {w0 w : World} {ρ : Rho} {s : St} {outs : Outs}
section
variable {ih : IH} {ops : Array Oper} {D : Nat → Stp} {n : Nat} {ro : Option Nat} {Q : Exit → Act → World → Prop} {c : Fr → HM}
theorem set_L {listed : Array Bool} {i : Nat} (hi : i < listed.size) : (fun k => (listed.setIfInBounds i true).getD k false) = fun j => if j = i then true else listed.getD j false := by
  funext j
  by_cases h : j = i
  · subst h; simp [hi]
  · rw [if_neg h]; exact getD_set_ne false (Ne.symm h)
theorem count_set : ∀ (l : List Bool) (i : Nat), l[i]? = some false → (l.set i true).count false + 1 = l.count false := by
  intro l
  induction l with
  | nil => intro i h; simp at h
  | cons b l ih =>
    intro i h
    cases i with
    | zero => simp at h; subst h; simp
    | succ i =>
      have := ih i (by simpa using h)
      simp only [List.set_cons_succ, List.count_cons]
      omega
theorem draw_any (he : EOk P E) (hgl : E.gl ≤ nb) (hc : CallsOk P E nb base w0 ih) (hD : ∀ k o, ops[k]? = some o → StepAt nb E ih ops D k o) (hR : RegOk ops D) {nn : Nat} (hend : Ok nb (c (D ops.size).fr) ⟨(D ops.size).h, nn⟩ outs)
    (hn : CGoes P nb base w0 ρ (D 0).fr.rnd c outs (Q .normal)) : ∀ (fuel : Nat) (listed : Array Bool) (a : Act) (w : World) (ρ' : Rho) (hS : T AObj), listed.size = ops.size → listed.toList.count false = fuel → ρ.le ρ' →
      Done P nb base w0 ops D (fun k => listed.getD k false) ρ' a w hS → wpAnyIn (Fw ro) n P .any ops Q fuel listed a w := by
  -- where nothing is ready all is done
  have noneReady : ∀ (listed : Array Bool), listed.size = ops.size → Region.ready .any ops listed = [] → ∀ k, k < ops.size → listed.getD k false = true := by
    intro listed hsz h0 k
    induction k using Nat.strongRecOn with
    | _ k ihk =>
      intro hk
      cases hl : listed.getD k false with
      | true => rfl
      | false =>
        exfalso
        have : k ∈ Region.ready .any ops listed := by
          rw [mem_ready]
          refine ⟨by have hkl : k < listed.size := by omega
                     simp [hkl] at hl ⊢; exact hl, ops[k], by simp [hk], fun e he hb => ?_⟩
          have := hR.edge k ops[k] (by simp [hk]) e he hb
          exact ihk e.on this (by omega)
        rw [h0] at this; cases this
  intro fuel
  induction fuel with
  | zero =>
    intro listed a w ρ' hS hsz hcnt hle d
    have hall : ∀ k, k < ops.size → listed.getD k false = true := fun k hk => by
      have hkl : k < listed.size := by omega
      have hnot : false ∉ listed.toList := List.count_eq_zero.1 hcnt
      cases hl : listed.getD k false with
      | true => rfl
      | false =>
        exfalso; apply hnot
        rw [Array.mem_toList_iff]
        have : listed[k] = false := by simpa [hkl] using hl
        rw [← this]; exact Array.getElem_mem hkl
    refine ⟨?_, done_all hD hend hn hall hle d⟩
    rw [List.eq_nil_iff_forall_not_mem]
    intro j hj
    obtain ⟨h1, o, ho, _⟩ := mem_ready.1 hj
    have hjm := (Array.getElem?_eq_some_iff.1 ho).1
    have h2 := hall j hjm
    have hjl : j < listed.size := by omega
    simp [hjl] at h1 h2
    rw [h1] at h2; cases h2
  | succ fuel ihf =>
    intro listed a w ρ' hS hsz hcnt hle d
    refine ⟨fun h0 => done_all hD hend hn (noneReady listed hsz h0) hle d, fun i hi => ?_⟩
    obtain ⟨h1, o, ho, hedges⟩ := mem_ready.1 hi
    have him := (Array.getElem?_eq_some_iff.1 ho).1
    have hil : i < listed.size := by omega
    have hi0 : listed.getD i false = false := by simp [hil] at h1 ⊢; exact h1
    have st := hD i o ho
    have hpre : ∀ j, Nat.testBit (D i).pre j = true → listed.getD j false = true := fun j hj => by
      rw [st.pre] at hj
      obtain ⟨e, he', hb, hj⟩ := preOf_bits _ j _ hj
      have hon := hedges e (by simpa using he') hb
      rcases hj with rfl | hj
      · exact hon
      · have hlt := hR.edge i o ho e (by simpa using he') hb
        rw [range_get _ _ _ hlt] at hj
        exact d.closed e.on (by omega) hon j hj
    obtain ⟨r1, r2, _, _⟩ := ready_at hD hR d.closed ho hi0 hpre
    have hlook : ∀ t ∈ o.looksAt ops, VRel ρ' (tget (D i).fr t) (a.tmps.getD t undef) := fun t ht => by rw [← r1 t ht]; exact d.tmps t
    have hw := st.wanted ρ' a hlook
    have hcnt2 : (listed.setIfInBounds i true).toList.count false = fuel := by
      rw [Array.toList_setIfInBounds]
      have := count_set listed.toList i (by rw [Array.getElem?_toList]; simp [hil] at hi0 ⊢; exact hi0)
      omega
    have next : ∀ (ρ2 : Rho) (w2 : World) (h2 : T AObj) (v : Value), ρ'.le ρ2 → Rel P nb base w0 ρ2 h2 w2 → VRel ρ2 (D i).v v → (∀ b, 1 ≤ b → T.get h2 b = if b ∈ (D i).wr then T.get (D (i + 1)).h b else T.get hS b) →
        wpAnyIn (Fw ro) n P .any ops Q fuel (listed.setIfInBounds i true) (a.put o.dst v) w2 := fun ρ2 w2 h2 v q1 q2 q3 q4 => by
      refine ihf _ _ _ ρ2 h2 (by rw [Array.size_setIfInBounds]; exact hsz) hcnt2 (Rho.le_trans hle q1) ?_
      rw [set_L hil]
      exact done_more hD hR ho hi0 hpre d q1 q2 q3 q4
    unfold wpOpIn
    simp only [ho, hw]
    cases ht : (D i).t with
    | false =>
      simp only [Bool.false_eq_true, if_false]
      obtain ⟨e1, e2, e3, e4⟩ := st.off ht
      refine ⟨fun _ _ => trivial, next ρ' w hS undef ρ'.le_refl d.rel (by rw [e1]; exact un_rel) fun b hb => ?_⟩
      rw [e4]; simp
    | true =>
      simp only [if_true]
      obtain ⟨ni, hni⟩ := st.on ht
      have hag : Agree (D i).rd (D i).wr (D i).h hS := fun b hb hin => by rw [d.heap b hb]; exact (r2 ht b hb hin).symm
      refine op_sound he hc (s := ⟨hS, ni⟩) (fun x hx => ev_rel (s := ⟨hS, ni⟩) hgl d.rel fun t e => hlook t ?_) (hni hS hag) d.rel fun ρ2 w2 dv v s2 q1 q2 q3 q4 => ?_
      · subst e
        exact List.mem_append_left _ (List.mem_filterMap.2 ⟨.tmp t, by simpa using hx, rfl⟩)
      · obtain ⟨e1, hm⟩ := Ok_ret q4
        subst e1
        refine next ρ2 w2 s2.h v q1 q2 q3 fun b hb => ?_
        rcases hm b hb with ⟨m1, m2⟩ | ⟨m1, m2⟩
        · by_cases hwb : b ∈ (D i).wr
          · rw [if_pos hwb, m2, m1, hag b hb (.inr hwb)]
          · rw [if_neg hwb, m2]
        · rw [if_pos m2, m1]
theorem region_draw_sound (he : EOk P E) (hgl : E.gl ≤ nb) (hc : CallsOk P E nb base w0 ih) {id : Nat} {fr : Fr} {a : Act} (hreg : ∀ D : Nat → Stp, (∀ k o, ops[k]? = some o → (D k).pre = preOf o.after.toList ((List.range k).map fun j => (D j).pre)) → RegOk ops D)
    (hok : Ok nb (drawX E ih ops.toList ops.toList [] [] fr c) s outs) (r : Rel P nb base w0 ρ s.h w) (hf : FRel ρ fr a) (hn : CGoes P nb base w0 ρ fr.rnd c outs (Q .normal)) : (Code.region id ops true).wpIn (Fw ro) n P Q a w := by
  obtain ⟨D, _, d2, d3, hD, nn, hend⟩ := draw_steps ops.toList 0 rfl (fun _ => ⟨fr, s.h, dU, [], [], 0, false⟩) s hok rfl
  have hD : ∀ k o, ops[k]? = some o → StepAt nb E ih ops D k o := fun k o ho => hD k o (Nat.zero_le _) ho
  have hR := hreg D fun k o ho => (hD k o ho).pre
  refine wpIn_region_any he.mixed ?_
  have hend : Ok nb (c (D ops.size).fr) ⟨(D ops.size).h, nn⟩ outs := by simpa using hend
  have hfr : (D 0).fr = fr := d2
  have hh : (D 0).h = s.h := d3
  refine draw_any he hgl hc hD hR (ρ := ρ) hend (by rw [hfr]; exact hn) ops.size _ a _ ρ s.h (by simp) (by simp) ρ.le_refl ?_
  have hL : (fun k => (Array.replicate ops.size false).getD k false) = fun _ => false := by
    funext k
    by_cases h : k < ops.size <;> simp [h]
  rw [hL]
  have hH : ∀ b k, spH D (fun _ => false) b k = T.get (D 0).h b := fun b k => by
    induction k with
    | zero => rfl
    | succ k ihk => rw [spH_succ, if_neg (by simp)]; exact ihk
  have hT : ∀ t k, spT ops D (fun _ => false) t k = tget (D 0).fr t := fun t k => by
    induction k with
    | zero => rfl
    | succ k ihk => rw [spT_succ, if_neg (by simp)]; exact ihk
  refine ⟨fun k hk h => (by cases h), fun b hb => by rw [hH, hh], r.draw _, by rw [hfr]; exact hf.tm.1, fun t => by rw [hT, hfr]; exact hf.get t, by rw [hfr]; exact hf.df⟩
end
theorem preOf'_eq (ms : List Nat) : ∀ es : List Edge, regOkB.preOf' es ms = preOf es ms := by
  intro es
  induction es with
  | nil => rfl
  | cons e es ih =>
    obtain ⟨on, gr⟩ := e
    have h1 : regOkB.preOf' (⟨on, gr⟩ :: es) ms = if Region.binds .any ⟨on, gr⟩ then regOkB.preOf' es ms ||| ((1 <<< on) ||| ms[on]?.getD 0) else regOkB.preOf' es ms := rfl
    rw [h1, ih]
    have key : (preOf es ms ||| ((1 <<< on) ||| ms[on]?.getD 0)) = Nat.lor (preOf es ms) (Nat.lor (Nat.shiftLeft 1 on) (List.rec (motive := fun _ => Nat → Nat) (fun _ => 0) (fun m _ ihm i => Nat.rec m (fun j _ => ihm j) i) ms on)) := by rw [ms_get]; rfl
    cases gr with
    | textOnly d => rfl
    | gcOnly d => rfl
    | _ => exact key
theorem pres_spec : ∀ (l : List Oper) (ms0 : List Nat) (D : Nat → Stp), (∀ k, k < ms0.length → ms0[k]? = some (D k).pre) → (∀ k o, l[k]? = some o → (D (ms0.length + k)).pre = preOf o.after.toList ((List.range (ms0.length + k)).map fun j => (D j).pre)) →
    ∀ k, k < ms0.length + l.length → (l.foldl (fun ms o => ms ++ [regOkB.preOf' o.after.toList ms]) ms0)[k]? = some (D k).pre := by
  intro l
  induction l with
  | nil => intro ms0 D h _ k hk; exact h k (by simpa using hk)
  | cons o l ih =>
    intro ms0 D h h2 k hk
    have e0 : ms0 = (List.range ms0.length).map fun j => (D j).pre := by
      apply List.ext_getElem?
      intro j
      by_cases hj : j < ms0.length
      · rw [h j hj, range_get _ _ _ hj]
      · rw [List.getElem?_eq_none (by omega), List.getElem?_eq_none (by simp; omega)]
    have e1 : (D ms0.length).pre = regOkB.preOf' o.after.toList ms0 := by
      rw [preOf'_eq]
      have := h2 0 o rfl
      rw [Nat.add_zero, ← e0] at this
      exact this
    refine ih (ms0 ++ [regOkB.preOf' o.after.toList ms0]) D (fun j hj => ?_) (fun j o' ho' => ?_) k (by simp at hk ⊢; omega)
    · rw [List.length_append, List.length_singleton] at hj
      by_cases hjl : j < ms0.length
      · rw [List.getElem?_append_left hjl]; exact h j hjl
      · obtain rfl : j = ms0.length := by omega
        rw [List.getElem?_append_right (Nat.le_refl _)]; simp [e1]
    · rw [List.length_append, List.length_singleton]
      have := h2 (j + 1) o' (by simpa using ho')
      rw [show ms0.length + 1 + j = ms0.length + (j + 1) by omega]; exact this
theorem regOk_of {ops : Array Oper} (h : regOkB ops = true) (D : Nat → Stp) (hp : ∀ k o, ops[k]? = some o → (D k).pre = preOf o.after.toList ((List.range k).map fun j => (D j).pre)) : RegOk ops D := by
  have hpres := pres_spec ops.toList [] D (fun k hk => by simp at hk) (fun k o ho => by simp only [List.length_nil, Nat.zero_add]; exact hp k o (by simpa using ho))
  unfold regOkB at h
  simp only [List.all_eq_true, List.mem_range] at h
  refine ⟨fun k o ho e he hb => ?_, fun j k oj ok hjk hj hk hb => ?_⟩
  · have hk := (Array.getElem?_eq_some_iff.1 ho).1
    have := h k hk
    rw [ho] at this
    simp only [Bool.and_eq_true, List.all_eq_true] at this
    have := this.1 e (by simpa using he)
    rw [hb] at this
    simpa using this
  · have hkm := (Array.getElem?_eq_some_iff.1 hk).1
    have := h k hkm
    rw [hk] at this
    simp only [Bool.and_eq_true, List.all_eq_true, List.mem_range] at this
    have := this.2 j hjk
    rw [hj] at this
    have hpk := hpres k (by simpa using hkm)
    rw [List.getD_eq_getElem?_getD, hpk] at this
    simp only [Option.getD_some, hb, Bool.false_or] at this
    exact this
end Go.Proofs.YtcongfiojbajeaaD

/- Code: what the small machine's way through it comes to, the code comes to. Conditions: none. -/
namespace Go.Proofs.YtcongfiojbajeaaD
open Go Go.RowKit
set_option linter.unusedVariables false
set_option linter.unusedSimpArgs false
variable {P : Program} {E : Env} {nb base : Nat} {w0 w : World} {ρ : Rho} {s : St} {outs : Outs}

def FwRel (ρ : Rho) (rnd ro : Option Nat) : Prop := match rnd with
  | none => ro = none
  | some l => ∃ c, ρ l = some (c, 0) ∧ ro = some c
theorem FwRel.mono {ρ' : Rho} (h : ρ.le ρ') {rnd ro : Option Nat} (hf : FwRel ρ rnd ro) : FwRel ρ' rnd ro := by
  cases rnd with
  | none => exact hf
  | some l => obtain ⟨c, h1, h2⟩ := hf; exact ⟨c, h.f _ _ h1, h2⟩
def exitOf : Ex → Exit
  | .normal => .normal
  | .exit id => .exit id
  | .ret => .ret
def XGoes (P : Program) (nb base : Nat) (w0 : World) (ρ : Rho) (rnd : Option Nat) (k : Ex → Fr → HM) (outs : Outs) (Q : Exit → Act → World → Prop) : Prop :=
  ∀ (ρ' : Rho) (fr' : Fr) (a' : Act) (w' : World) (s' : St) (ex : Ex), ρ.le ρ' → Rel P nb base w0 ρ' s'.h w' → FRel ρ' fr' a' → fr'.rnd = rnd → Ok nb (k ex fr') s' outs → Q (exitOf ex) a' w'
theorem XGoes.le {ρ' : Rho} {rnd : Option Nat} {k : Ex → Fr → HM} {Q : Exit → Act → World → Prop} (h : ρ.le ρ') (hc : XGoes P nb base w0 ρ rnd k outs Q) : XGoes P nb base w0 ρ' rnd k outs Q :=
  fun ρ2 fr' a' w' s' ex h1 => hc ρ2 fr' a' w' s' ex (Rho.le_trans h h1)
/-- A loop, from its round's start. -/
def LoopIn (F : Fence) (n : Nat) (P : Program) (c : Code) (Q : Exit → Act → World → Prop) (a : Act) (w : World) : Prop :=
  ∀ (b : Frame) (k : List Item) (cs : List Frame), b.roundOf = F.round → F.fn b.fn → F.room (cs.length + 1 + n) →
    ∃ e a' w', Q e a' w' ∧ ArrivesIn (Machine.fenced P F) P (lone (b.atR a (.code c :: .inLoop c :: k)) cs w) b k cs e a' w'
section
variable {F : Fence} {n : Nat} {Q : Exit → Act → World → Prop} {a : Act}
theorem loop_of {c : Code} (h : LoopIn F n P c Q a w) : (Code.loop c).wpIn F n P Q a w := by
  intro b k cs hro hb hr
  obtain ⟨e, a', w', hq, harr⟩ := h b k cs hro hb hr
  exact ⟨e, a', w', hq, .of_steps (.one (fenced_calm hb hr rfl) stepR_loop) harr⟩
theorem loop_step {c : Code} (h : c.wpIn F n P (Exit.then (LoopIn F n P c Q) Q) a w) : LoopIn F n P c Q a w := by
  intro b k cs hro hb hr
  obtain ⟨e, a₁, w₁, hq, harr⟩ := h b (.inLoop c :: k) cs hro hb hr
  cases e with
  | normal =>
    obtain ⟨e₂, a₂, w₂, hq₂, harr₂⟩ := hq b k cs hro hb hr
    exact ⟨e₂, a₂, w₂, hq₂, .of_steps (StepsIn.trans harr (.one (fenced_calm hb hr rfl) stepR_inLoop)) harr₂⟩
  | exit id => exact ⟨_, a₁, w₁, hq, .pass (x := .inLoop c) rfl (fun _ _ => .inl (by simp)) harr⟩
  | goto l => exact ⟨_, a₁, w₁, hq, .pass (x := .inLoop c) rfl (fun _ _ => .inl (by simp)) harr⟩
  | ret => exact ⟨_, a₁, w₁, hq, .pass (x := .inLoop c) rfl (fun _ _ => .inl (by simp)) harr⟩
  | panic ch => exact ⟨_, a₁, w₁, hq, .pass (x := .inLoop c) rfl (fun _ _ => .inl (by simp)) harr⟩
  | outgrown => exact ⟨_, a₁, w₁, hq, .pass (x := .inLoop c) rfl (fun _ _ => .inl (by simp)) harr⟩
end
def SoundC (P : Program) (nb base : Nat) (w0 : World) (ih : IH) : Prop :=
  ∀ (c : Code), codeOkB c = true → ∀ (fr : Fr) (k : Ex → Fr → HM) (s : St) (outs : Outs) (a : Act) (w : World) (ρ : Rho) (n : Nat) (ro : Option Nat) (Q : Exit → Act → World → Prop),
    Ok nb (ih c fr k) s outs → Rel P nb base w0 ρ s.h w → FRel ρ fr a → FwRel ρ fr.rnd ro → XGoes P nb base w0 ρ fr.rnd k outs Q → c.wpIn (Fw ro) n P Q a w ∧ ∀ b, c = .loop b → LoopIn (Fw ro) n P b Q a w
theorem sound_zero : SoundC P nb base w0 (exec E 0) := fun c _ fr k s outs a w ρ n ro Q hok => (Ok_fail hok).elim
/-! ### the call of a function that is ranged over -/
theorem callG_sound {ih : IH} (hc : CallsOk P E nb base w0 ih) {v : DVal} {args : List DVal} {fv : Value} {vargs : Array Value} {n : Nat} {ro : Option Nat} (hv : VRel ρ v fv) (ha : VsRel ρ args vargs.toList) (hok : Ok nb (callG E ih v args) s outs)
    (r : Rel P nb base w0 ρ s.h w) : ∃ (d : Deferred) (f : FuncId) (args' : Array Value), (Deferred.ofValue fv vargs).run P w = .ok d w ∧ (invoke d.target d.args).run P w = .ok (.enter f args') w ∧ CallsIn (Fw ro) n P f args' w (Retd P nb base w0 ρ outs) := by
  cases v with
  | func fn first cap =>
    cases fn with
    | func g =>
      simp only [VRel] at hv
      obtain ⟨a', b', rfl, h1, h2⟩ := hv
      have hok2 : Ok nb (lapp first args fun a => lapp a cap fun a => callF E ih g a) s outs := hok
      rw [lapp_eq, lapp_eq] at hok2
      obtain ⟨⟨fn, hfn, hb, hnm⟩, hcall⟩ := hc.fn g _ (a' ++ vargs ++ b') ρ w s outs n ro r (by simp only [Array.toList_append]; exact (h1.app ha).app h2) hok2
      exact ⟨_, g, _, rfl, run_callFunc hfn hb hnm w, hcall⟩
    | _ => exact (Ok_fail hok).elim
  | _ => exact (Ok_fail hok).elim
theorem run_enterLoop_inner {fn : FuncId} {tmps : Array Value} {ps : Array Tmp} {assign body : Code} {l : Nat} {r : Loop} (h : w.heap[l]? = some (.loop r)) :
    (Instr.enterLoop fn tmps ps assign body (some l)).run P w = .ok (w.heap.size, []) (w.alloc (.loop { state := .ready, pending := none, fn, tmps, params := ps, assign, body, defers := r.defers })) := by
  unfold Instr.enterLoop
  simp only [Sem.run_bind, run_getLoop h, run_newObj_alloc, Result.andThen_ok, Sem.run_pure]
end Go.Proofs.YtcongfiojbajeaaD

/- Code: what the small machine's way through it comes to, the code comes to. Part 2. Conditions: none. -/
namespace Go.Proofs.YtcongfiojbajeaaD
open Go Go.RowKit
set_option linter.unusedVariables false
set_option linter.unusedSimpArgs false
variable {P : Program} {E : Env} {nb base : Nat} {w0 w : World} {ρ : Rho} {s : St} {outs : Outs}

theorem rangeEnd_sound {ih : IH} (hs : SoundC P nb base w0 ih) {l lc : Nat} {fr : Fr} {k : Ex → Fr → HM} {a : Act} {n : Nat} {ro : Option Nat} {Q : Exit → Act → World → Prop} (hok : Ok nb (rangeEnd ih l fr k) s outs) (r : Rel P nb base w0 ρ s.h w)
    (hl : ρ l = some (lc, 0)) (hf : FRel ρ fr a) (hro : FwRel ρ fr.rnd ro) (hQ : XGoes P nb base w0 ρ fr.rnd k outs Q) :
    ∃ jump w₄, (Instr.endLoop lc).run P w = .ok jump w₄ ∧ (match jump with | none => Q .normal a w₄ | some c => c.wpIn (Fw ro) n P Q a w₄) := by
  obtain ⟨ob, s1, hs1, hg, hok⟩ := Ok_get hok
  obtain ⟨oc, hoc, hor⟩ := r.at hl hg
  cases ob with
  | loop rl =>
    obtain ⟨_, rc, rfl, h1, h2, h3, h4, h5, h6, h7, h8, h9, h10⟩ := hor
    have go : rl.st ≠ .busy → Ok nb (HM.set l .dead (Option.rec (k .normal fr) (fun c => ih c fr k) rl.pend)) s1 outs →
        ∃ jump w₄, (Instr.endLoop lc).run P w = .ok jump w₄ ∧ (match jump with | none => Q .normal a w₄ | some c => c.wpIn (Fw ro) n P Q a w₄) := by
      intro hb hok
      obtain ⟨hnb, s2, hs2, hok⟩ := Ok_set hok
      have hrel : Rel P nb base w0 ρ s2.h (w.putObj lc (.loop { rc with state := .exhausted })) := by
        rw [hs2, hs1]
        exact r.upd hnb hg (by simp) hl (Upd.putObj _ hoc (fun _ _ _ h => by cases h)) trivial
      refine ⟨rc.pending, _, run_endLoop hoc (by rw [h1]; exact hb), ?_⟩
      generalize w.putObj lc (.loop { rc with state := .exhausted }) = w4 at hrel ⊢
      cases hp : rl.pend with
      | none =>
        rw [h2, hp]
        rw [hp] at hok
        exact hQ ρ fr a _ s2 .normal ρ.le_refl hrel hf rfl hok
      | some c =>
        rw [h2, hp]
        rw [hp] at hok
        exact (hs c (h10 c hp) fr k s2 outs a _ ρ n ro Q hok hrel hf hro hQ).1
    have hok1 : Ok nb (match rl.st with
      | .busy => .fail
      | _ => HM.set l .dead (Option.rec (k .normal fr) (fun c => ih c fr k) rl.pend)) s1 outs := hok
    cases hst : rl.st with
    | busy => rw [hst] at hok1; exact (Ok_fail hok1).elim
    | _ => rw [hst] at hok1; exact go (by rw [hst]; simp) hok1
  | _ => exact (Ok_fail hok).elim
theorem rangeGo_sound {ih : IH} (hgl : E.gl ≤ nb) (hs : SoundC P nb base w0 ih) (hc : CallsOk P E nb base w0 ih) {g : Operand} {ps : Array Tmp} {assign body : Code} (ha : codeOkB assign = true) (hb : codeOkB body = true) {fr : Fr} {k : Ex → Fr → HM} {d dc : Nat} {a : Act} {n : Nat} {ro : Option Nat}
    {Q : Exit → Act → World → Prop} (hok : Ok nb (rangeGo E ih g ps.toList assign body fr k d) s outs) (r : Rel P nb base w0 ρ s.h w) (hd : ρ d = some (dc, 0)) (hf : FRel ρ fr a) (hro : FwRel ρ fr.rnd ro) (hQ : XGoes P nb base w0 ρ fr.rnd k outs Q) (fn : FuncId) :
    ∃ (dd : Deferred) (f : FuncId) (args : Array Value), (Deferred.ofValue (a.eval g) #[.func (.yield w.heap.size) #[] #[]]).run P (w.alloc (.loop { state := .ready, pending := none, fn, tmps := a.tmps, params := ps, assign, body, defers := dc })) = .ok dd (w.alloc (.loop { state := .ready, pending := none, fn, tmps := a.tmps, params := ps, assign, body, defers := dc })) ∧
      (invoke dd.target dd.args).run P (w.alloc (.loop { state := .ready, pending := none, fn, tmps := a.tmps, params := ps, assign, body, defers := dc })) = .ok (.enter f args) (w.alloc (.loop { state := .ready, pending := none, fn, tmps := a.tmps, params := ps, assign, body, defers := dc })) ∧
      CallsIn (Fw ro) (n - 1) P f args (w.alloc (.loop { state := .ready, pending := none, fn, tmps := a.tmps, params := ps, assign, body, defers := dc })) (rangePost (Fw ro) n P w.heap.size Q a) := by
  obtain ⟨ρ', l, s1, hle, hl, hrel, hok⟩ := newObj_ok (oc := .loop { state := .ready, pending := none, fn, tmps := a.tmps, params := ps, assign, body, defers := dc }) hok r
    (fun ρ' hle => ⟨rfl, _, rfl, rfl, rfl, hf.tm.mono hle, rfl, rfl, rfl, hle.f _ _ hd, ha, hb, fun c h => by cases h⟩)
  have hok := Ok_sub hok
  obtain ⟨dd, f, args, h1, h2, h3⟩ := callG_sound (ro := ro) (n := n - 1) hc (ev_rel hgl hrel (a := a) (x := g) fun t _ => (hf.mono hle).get t) (vargs := #[.func (.yield w.heap.size) #[] #[]])
    (VsRel.cons (by simp only [VRel]; exact ⟨_, hl, rfl⟩) VsRel.nil) hok hrel
  refine ⟨dd, f, args, h1, h2, h3.mono fun e w' he => ?_⟩
  obtain ⟨ρ2, dv, v, s2, rfl, q1, q2, q3, rd, wr, q4⟩ := he
  exact rangeEnd_sound (s := ⟨s2.h, s2.n⟩) hs q4 q2 (q1.f _ _ hl) ((hf.mono hle).mono q1) ((hro.mono hle).mono q1) ((hQ.le hle).le q1)
theorem Ok_orec {α : Type} {o : Option α} {A : HM} {B : α → HM} (h : Ok nb (Option.rec A B o) s outs) : (o = none ∧ Ok nb A s outs) ∨ ∃ x, o = some x ∧ Ok nb (B x) s outs := by
  cases o with
  | none => exact .inl ⟨rfl, h⟩
  | some x => exact .inr ⟨x, rfl, h⟩
theorem code_sound {ih : IH} (he : EOk P E) (hgl : E.gl ≤ nb) (hs : SoundC P nb base w0 ih) (hc : CallsOk P E nb base w0 ih) : SoundC P nb base w0 (codeX E ih) := by
  intro c
  induction c with
  | skip =>
    intro _ fr k s outs a w ρ n ro Q hok r hf hro hQ
    exact ⟨wpIn_skip (hQ ρ fr a w s .normal ρ.le_refl r hf rfl hok), fun b h => by cases h⟩
  | region id ops draw =>
    intro hcb fr k s outs a w ρ n ro Q hok r hf hro hQ
    refine ⟨?_, fun b h => by cases h⟩
    have hQ' : CGoes P nb base w0 ρ fr.rnd (k .normal) outs (Q .normal) := fun ρ' fr' a' w' s' h1 h2 h3 h4 h5 => hQ ρ' fr' a' w' s' .normal h1 h2 h3 h4 h5
    cases draw with
    | false => exact region_sound he hgl hc hok r hf hQ'
    | true =>
      have hreg : regOkB ops = true := by simpa [codeOkB] using hcb
      exact region_draw_sound he hgl hc (regOk_of hreg) hok r hf hQ'
  | seq x y ihx ihy =>
    intro hcb fr k s outs a w ρ n ro Q hok r hf hro hQ
    simp only [codeOkB, Bool.and_eq_true] at hcb
    refine ⟨wpIn_seq ?_, fun b h => by cases h⟩
    refine (ihx hcb.1 fr _ s outs a w ρ n ro _ hok r hf hro fun ρ' fr' a' w' s' ex h1 h2 h3 h4 h5 => ?_).1
    cases ex with
    | normal => exact (ihy hcb.2 fr' k s' outs a' w' ρ' n ro Q h5 h2 h3 (by rw [h4]; exact hro.mono h1) (by rw [h4]; exact hQ.le h1)).1
    | exit id => exact hQ ρ' fr' a' w' s' (.exit id) h1 h2 h3 h4 h5
    | ret => exact hQ ρ' fr' a' w' s' .ret h1 h2 h3 h4 h5
  | cond o x y ihx ihy =>
    intro hcb fr k s outs a w ρ n ro Q hok r hf hro hQ
    simp only [codeOkB, Bool.and_eq_true] at hcb
    refine ⟨?_, fun b h => by cases h⟩
    have ho := ev_rel hgl r (fr := fr) (a := a) (x := o) fun t _ => hf.get t
    have hok1 : Ok nb (match ev E fr o with
      | .bool t => Bool.rec (codeX E ih y fr k) (codeX E ih x fr k) t
      | _ => .fail) s outs := hok
    cases hod : ev E fr o with
    | bool t =>
      rw [hod] at hok1 ho
      simp only [VRel] at ho
      cases t with
      | true => exact wpIn_cond_true ho (ihx hcb.1 fr k s outs a w ρ n ro Q hok1 r hf hro hQ).1
      | false => exact wpIn_cond_false ho (ihy hcb.2 fr k s outs a w ρ n ro Q hok1 r hf hro hQ).1
    | _ => rw [hod] at hok1; exact (Ok_fail hok1).elim
  | block id x ihx =>
    intro hcb fr k s outs a w ρ n ro Q hok r hf hro hQ
    refine ⟨wpIn_block ?_, fun b h => by cases h⟩
    refine (ihx hcb fr _ s outs a w ρ n ro _ hok r hf hro fun ρ' fr' a' w' s' ex h1 h2 h3 h4 h5 => ?_).1
    cases ex with
    | normal => exact hQ ρ' fr' a' w' s' .normal h1 h2 h3 h4 h5
    | ret => exact hQ ρ' fr' a' w' s' .ret h1 h2 h3 h4 h5
    | exit j =>
      show (if j = id then Q .normal a' w' else Q (.exit j) a' w')
      rcases Ok_brec (show Ok nb (Bool.rec (k (.exit j) fr') (k .normal fr') (Nat.beq j id)) s' outs from h5) with ⟨hj, h5⟩ | ⟨hj, h5⟩
      · rw [beq_iff] at hj
        rw [if_pos hj]; exact hQ ρ' fr' a' w' s' .normal h1 h2 h3 h4 h5
      · rw [if_neg (by intro e; rw [← beq_iff] at e; rw [e] at hj; cases hj)]; exact hQ ρ' fr' a' w' s' (.exit j) h1 h2 h3 h4 h5
  | loop x ihx =>
    intro hcb fr k s outs a w ρ n ro Q hok r hf hro hQ
    have key : LoopIn (Fw ro) n P x Q a w := by
      refine loop_step ?_
      refine (ihx hcb fr _ s outs a w ρ n ro _ hok r hf hro fun ρ' fr' a' w' s' ex h1 h2 h3 h4 h5 => ?_).1
      cases ex with
      | normal => exact (hs (.loop x) hcb fr' k s' outs a' w' ρ' n ro Q h5 h2 h3 (by rw [h4]; exact hro.mono h1) (by rw [h4]; exact hQ.le h1)).2 x rfl
      | exit id => exact hQ ρ' fr' a' w' s' (.exit id) h1 h2 h3 h4 h5
      | ret => exact hQ ρ' fr' a' w' s' .ret h1 h2 h3 h4 h5
    exact ⟨loop_of key, fun b h => by cases h; exact key⟩
  | rangeFunc g ps assign body iha ihb =>
    intro hcb fr k s outs a w ρ n ro Q hok r hf hro hQ
    simp only [codeOkB, Bool.and_eq_true] at hcb
    refine ⟨wpIn_rangeFunc fun fn _ => ?_, fun b h => by cases h⟩
    have hok1 : Ok nb (Option.rec (HM.new .dfr fun d => rangeGo E ih g ps.toList assign body (Fr.mk fr.tm fr.n (d :: fr.dfs) fr.fn fr.rnd) k d) (fun l => HM.get l fun ob => match ob with
        | .loop r => rangeGo E ih g ps.toList assign body fr k r.dfr
        | _ => .fail) fr.rnd) s outs := hok
    rcases Ok_orec hok1 with ⟨hrnd, hok1⟩ | ⟨l, hrnd, hok1⟩
    · rw [hrnd] at hro
      obtain rfl : ro = none := hro
      obtain ⟨ρ1, d, s1, hle, hd, hrel, hok2⟩ := newObj_ok (oc := .deferred (some [])) hok1 r (fun _ _ => ⟨rfl, rfl⟩)
      have hf' : FRel ρ1 (Fr.mk fr.tm fr.n (d :: fr.dfs) fr.fn fr.rnd) { a with defers := [{ target := .collected w.heap.size, args := #[] }] ++ a.defers } :=
        ⟨hf.tm.mono hle, ⟨w.heap.size, a.defers, rfl, hd, hf.df.mono hle⟩⟩
      obtain ⟨dd, f, args, h1, h2, h3⟩ := rangeGo_sound (n := n) (ro := none) hgl hs hc hcb.1 hcb.2 hok2 hrel hd hf' (by show FwRel ρ1 fr.rnd none; rw [hrnd]; rfl) (hQ.le hle) fn
      have hev : ({ a with defers := [{ target := .collected w.heap.size, args := #[] }] ++ a.defers } : Act).eval g = a.eval g := by cases g <;> rfl
      rw [hev] at h1
      have hsz : (w.alloc (.deferred (some []))).heap.size = w.heap.size + 1 := World.size_alloc ..
      rw [hsz] at h1 h3
      exact ⟨_, _, _, dd, _, f, args, _, run_enterLoop_outer fn a.tmps ps assign body, (show (Deferred.ofValue (a.eval g) (#[.const (.func (.yield (w.heap.size + 1)) #[] #[])].map a.eval)).run P _ = _ from by simpa [Act.eval] using h1), fun _ _ => trivial, h2, fun h => (by cases h), h3⟩
    · rw [hrnd] at hro
      obtain ⟨lc, hl, rfl⟩ := hro
      obtain ⟨ob, s1, hs1, hg, hok2⟩ := Ok_get hok1
      obtain ⟨oc, hoc, hor⟩ := r.at hl hg
      have hr1 : Rel P nb base w0 ρ s1.h w := by rw [hs1]; exact r
      cases ob with
      | loop rl =>
        obtain ⟨_, rc, rfl, g1, g2, g3, g4, g5, g6, g7, g8, g9, g10⟩ := hor
        obtain ⟨dd, f, args, h1, h2, h3⟩ := rangeGo_sound (n := n) (ro := some lc) hgl hs hc hcb.1 hcb.2 hok2 hr1 g7 hf (by rw [hrnd]; exact ⟨lc, hl, rfl⟩) hQ fn
        exact ⟨_, _, _, dd, _, f, args, _, run_enterLoop_inner hoc, (show (Deferred.ofValue (a.eval g) (#[.const (.func (.yield w.heap.size) #[] #[])].map a.eval)).run P _ = _ from by simpa [Act.eval] using h1), fun _ _ => trivial, h2, fun h => (by cases h), h3⟩
      | _ => exact (Ok_fail hok2).elim
  | exit id =>
    intro _ fr k s outs a w ρ n ro Q hok r hf hro hQ
    exact ⟨wpIn_exit (hQ ρ fr a w s (.exit id) ρ.le_refl r hf rfl hok), fun b h => by cases h⟩
  | ret =>
    intro _ fr k s outs a w ρ n ro Q hok r hf hro hQ
    exact ⟨wpIn_ret (hQ ρ fr a w s .ret ρ.le_refl r hf rfl hok), fun b h => by cases h⟩
  | scope b ihb => intro _ fr k s outs a w ρ n ro Q hok; exact (Ok_fail hok).elim
  | label l => intro _ fr k s outs a w ρ n ro Q hok; exact (Ok_fail hok).elim
  | goto l => intro _ fr k s outs a w ρ n ro Q hok; exact (Ok_fail hok).elim
  | refuse y => intro _ fr k s outs a w ρ n ro Q hok; exact (Ok_fail hok).elim
end Go.Proofs.YtcongfiojbajeaaD

/- Calls: what the small machine's call comes to, the call comes to. Conditions: none. -/
namespace Go.Proofs.YtcongfiojbajeaaD
open Go Go.RowKit
set_option linter.unusedVariables false
set_option linter.unusedSimpArgs false
variable {P : Program} {E : Env} {nb base : Nat} {w0 w : World} {ρ : Rho} {s : St} {outs : Outs}

theorem load_var {t : Nat} {ad : Addr} {w : World} : (Instr.loadAt t (.pointer (some ad))).run P w = (loadVar t ad).run P w := by simp [Instr.loadAt, Instr.sureAddr]
/-- One result. -/
def oneRes (tmps : Array Value) : ResultVar → Sem Value
  | .tmp t => pure (tmps.getD t undef)
  | .cell a t => do loadVar t (← asAddr (tmps.getD a undef))
theorem resX_ok (he : EOk P E) {fr : Fr} {a : Act} (hf : FRel ρ fr a) : ∀ (rs : List ResultVar) (c : List DVal → HM) (s : St), Ok nb (resX E fr rs c) s outs → Rel P nb base w0 ρ s.h w →
    ∃ (vs : List DVal) (us : List Value) (s' : St), s'.h = s.h ∧ VsRel ρ vs us ∧ (rs.mapM (oneRes a.tmps)).run P w = .ok us w ∧ Ok nb (c vs) s' outs := by
  intro rs
  induction rs with
  | nil => intro c s hok r; exact ⟨[], [], s, rfl, VsRel.nil, rfl, hok⟩
  | cons x rs ih =>
    intro c s hok r
    cases x with
    | tmp t =>
      have hok := Ok_fV' (show Ok nb (fV (tget fr t) fun v => resX E fr rs fun vs => c (v :: vs)) s outs from hok)
      obtain ⟨vs, us, s', h1, h2, h3, h4⟩ := ih _ s hok r
      refine ⟨_, _, s', h1, VsRel.cons (hf.get t) h2, ?_, h4⟩
      simp only [List.mapM_cons, oneRes, Sem.run_bind, Sem.run_pure, Result.andThen_ok, h3]
    | cell b t =>
      have hok1 : Ok nb (match tget fr b with
        | .ptr b o => loadD E t b o fun v => resX E fr rs fun vs => c (v :: vs)
        | _ => .fail) s outs := hok
      have hb := hf.get b
      cases hbd : tget fr b with
      | ptr q o =>
        rw [hbd] at hok1 hb
        obtain ⟨x, y, s1, e1, e2, e3, e4⟩ := load_ok he hb hok1 r
        obtain ⟨vs, us, s', h1, h2, h3, h4⟩ := ih _ s1 e4 (by rw [e1]; exact r)
        refine ⟨_, _, s', by rw [h1, e1], VsRel.cons e3 h2, ?_, h4⟩
        simp only [VRel] at hb
        obtain ⟨c', sh, _, hv⟩ := hb
        rw [hv, load_var] at e2
        simp only [List.mapM_cons, oneRes, hv, asAddr, Sem.run_bind, Sem.run_pure, Result.andThen_ok, e2, h3]
      | _ => rw [hbd] at hok1; exact (Ok_fail hok1).elim
def tupOf : List Value → Value
  | [] => .tuple #[]
  | [v] => v
  | us => .tuple us.toArray
theorem results_run {fn : Func} {tmps : Array Value} {us : List Value} (h : (fn.results.toList.mapM (oneRes tmps)).run P w = .ok us w) : (results fn tmps).run P w = .ok (tupOf us) w := by
  have e : results fn tmps = (do let vs ← fn.results.mapM (oneRes tmps); pure (if h : vs.size = 1 then vs[0] else .tuple vs)) := by
    unfold results
    congr 1
  rw [e, Array.mapM_eq_mapM_toList]
  simp only [Sem.run_bind, Sem.run_map, h, Result.andThen_ok, Sem.run_pure]
  congr 1
  cases us with
  | nil => rfl
  | cons v us => cases us <;> simp [tupOf]
theorem leave_sound (he : EOk P E) {fn : Func} {F : Fence} {n : Nat} : ∀ (dfs : List Nat) (defers : List Deferred) (ρ : Rho) (w : World) (s : St) (fr : Fr) (a : Act), DfRel ρ dfs defers → TmRel ρ fr.n fr.tm a.tmps → Rel P nb base w0 ρ s.h w →
    Ok nb (dropD dfs (resX E fr fn.results.toList fun vs => match vs with
      | [] => .ret (.tuple [])
      | v :: r => match r with
        | [] => .ret v
        | r => .ret (.tuple (v :: r)))) s outs → ∀ (R : Ending → World → Prop), (∀ (ρ' : Rho) (w' : World) (d : DVal) (v : Value) (s' : St), ρ.le ρ' → Rel P nb base w0 ρ' s'.h w' → VRel ρ' d v → outs d s'.h s'.n → R (.returned v) w') → LeavesInM F n P fn a.tmps R defers .returning w := by
  intro dfs
  induction dfs with
  | nil =>
    intro defers ρ w s fr a hd htm r hok R hR
    obtain rfl := hd
    obtain ⟨vs, us, s', h1, h2, h3, h4⟩ := resX_ok (a := { tmps := a.tmps, defers := [] }) (fr := { fr with dfs := [] }) he ⟨htm, rfl⟩ _ _ s (show Ok nb (resX E { fr with dfs := [] } fn.results.toList _) s outs from hok) r
    have hrel : Rel P nb base w0 ρ s'.h w := by rw [h1]; exact r
    refine ⟨_, results_run h3, ?_⟩
    cases vs with
    | nil => rw [h2.nil_inv]; exact hR ρ w _ _ s' ρ.le_refl hrel un_rel (Ok_ret h4)
    | cons x vs =>
      obtain ⟨u, us', rfl, g1, g2⟩ := h2.cons_inv
      cases vs with
      | nil => rw [g2.nil_inv]; exact hR ρ w _ _ s' ρ.le_refl hrel g1 (Ok_ret h4)
      | cons y vs =>
        obtain ⟨u2, us2, rfl, g3, g4⟩ := g2.cons_inv
        exact hR ρ w _ _ s' ρ.le_refl hrel (by simp only [VRel]; exact ⟨_, rfl, VsRel.cons g1 (VsRel.cons g3 g4)⟩) (Ok_ret h4)
  | cons d dfs ih =>
    intro defers ρ w s fr a hd htm r hok R hR
    obtain ⟨rc, rest, rfl, hρ, hd⟩ := hd
    obtain ⟨ob, s1, hs1, hg, hok⟩ := Ok_get hok
    obtain ⟨oc, hoc, hor⟩ := r.at hρ hg
    cases ob with
    | dfr =>
      obtain ⟨_, rfl⟩ := hor
      obtain ⟨hnb, s2, hs2, hok⟩ := Ok_set hok
      refine ⟨by simp, .inl ⟨rc, _, rfl, run_takeDeferred hoc, ?_⟩⟩
      refine ih rest ρ _ s2 fr a hd htm ?_ hok R hR
      rw [hs2, hs1]
      exact r.upd hnb hg (by simp) hρ (Upd.putObj _ hoc (fun _ _ _ h => by cases h)) trivial
    | _ => exact (Ok_fail hok).elim
end Go.Proofs.YtcongfiojbajeaaD

/- Calls: what the small machine's call comes to, the call comes to. Part 2. Conditions: none. -/
namespace Go.Proofs.YtcongfiojbajeaaD
open Go Go.RowKit
set_option linter.unusedVariables false
set_option linter.unusedSimpArgs false
variable {P : Program} {E : Env} {nb base : Nat} {w0 w : World} {ρ : Rho} {s : St} {outs : Outs}

noncomputable def putArgs : List DVal → Nat → T DVal → T DVal
  | [], _, t => t
  | v :: vs, i, t => putArgs vs (i + 1) (T.put t i v)
theorem argsIn_eq : ∀ (vs : List DVal) (i : Nat) (t : T DVal) (c : T DVal → HM), argsIn vs i t c = c (putArgs vs i t) := by
  intro vs
  induction vs with
  | nil => intro i t c; rfl
  | cons v vs ih =>
    intro i t c
    show fV v (fun v => T.set t i v fun t => argsIn vs (i + 1) t c) = _
    rw [fV_eq, T.set_eq, ih]; rfl
theorem putArgs_get : ∀ (vs : List DVal) (i : Nat) (t : T DVal) (k : Nat), 1 ≤ i → 1 ≤ k → T.get (putArgs vs i t) k = if i ≤ k ∧ k < i + vs.length then vs[k - i]? else T.get t k := by
  intro vs
  induction vs with
  | nil => intro i t k h1 h2; rw [if_neg (by simp)]; rfl
  | cons v vs ih =>
    intro i t k h1 h2
    show T.get (putArgs vs (i + 1) (T.put t i v)) k = _
    rw [ih _ _ _ (by omega) h2, T.get_put _ _ _ _ h1 h2]
    by_cases hk : k = i
    · subst hk
      rw [if_neg (by omega), if_pos rfl, if_pos (by simp)]; simp
    · rw [if_neg hk]
      by_cases hc : i + 1 ≤ k ∧ k < i + 1 + vs.length
      · rw [if_pos hc, if_pos (by simp; omega)]
        rw [show k - i = (k - (i + 1)) + 1 by omega]; simp
      · rw [if_neg hc, if_neg (by simp; omega)]
theorem llen_len (l : List DVal) : llen l = l.length := llen_eq l
theorem args_tm {args : List DVal} {vargs : Array Value} {n : Nat} (ha : VsRel ρ args vargs.toList) (hn : args.length ≤ n) : TmRel ρ n (putArgs args 1 .nil) (vargs ++ Array.replicate (n - vargs.size) undef) := by
  have hl := ha.len
  simp at hl
  refine ⟨by simp; omega, fun t => ?_⟩
  rw [putArgs_get _ _ _ _ (Nat.le_refl _) (by omega)]
  by_cases ht : t < args.length
  · rw [if_pos (by omega), show t + 1 - 1 = t by omega, List.getElem?_eq_getElem ht]
    obtain ⟨v, hv1, hv2⟩ := ha.get (List.getElem?_eq_getElem ht)
    rw [Array.getElem?_toList] at hv1
    have : (vargs ++ Array.replicate (n - vargs.size) undef).getD t undef = v := by
      have h1 : t < vargs.size := by omega
      have h2 : vargs[t] = v := by simpa [h1] using hv1
      simp [Array.getD, Array.getElem_append, h1, h2]
      intro h; omega
    rw [this]; exact hv2
  · rw [if_neg (by omega)]
    have : (vargs ++ Array.replicate (n - vargs.size) undef).getD t undef = undef := by
      have h1 : ¬ t < vargs.size := by omega
      simp [Array.getD, Array.getElem_append, h1]
    rw [this]; exact un_rel
theorem bodyF_sound {ih : IH} (he : EOk P E) (hs : SoundC P nb base w0 ih) {f : Nat} {fn : Func} (hf : P.funcs[f]? = some fn) (hcode : ∀ c, fn.body = some c → codeOkB c = true) {args : List DVal} {vargs : Array Value} {n : Nat} {ro : Option Nat}
    (r : Rel P nb base w0 ρ s.h w) (ha : VsRel ρ args vargs.toList) (hok : Ok nb (bodyF E ih f fn args) s outs) : fn.body.isNone = false ∧ CallsIn (Fw ro) n P f vargs w (Retd P nb base w0 ρ outs) := by
  unfold bodyF at hok
  rcases Ok_orec hok with ⟨_, h⟩ | ⟨c, hb, hok⟩
  · exact (Ok_fail h).elim
  · refine ⟨by rw [hb]; rfl, ?_⟩
    obtain ⟨hn, hok⟩ := Ok_chk hok
    rw [ble_iff, llen_len] at hn
    rw [argsIn_eq] at hok
    have key : CallsIn (Fw none) n P f vargs w (Retd P nb base w0 ρ outs) := by
      refine callsIn_of_wp_marks (F := Fw none) hf hb trivial ?_
      refine (hs c (hcode c hb) (Fr.mk (putArgs args 1 .nil) fn.ntmps [] f none) (bodyF.bodyEnd E fn) s outs { tmps := vargs ++ Array.replicate (fn.ntmps - vargs.size) undef, defers := [] } w ρ n none _ hok r ⟨args_tm ha hn, rfl⟩ rfl fun ρ' fr' a' w' s' ex h1 h2 h3 h4 h5 => ?_).1
      have fin : Ok nb (leaveX E fn fr') s' outs → LeavesInM (Fw none) n P fn a'.tmps (Retd P nb base w0 ρ outs) a'.defers .returning w' := fun h => by
        cases fr' with
        | mk tm nn dfs ff rnd =>
          exact leave_sound he dfs a'.defers ρ' w' s' ⟨tm, nn, dfs, ff, rnd⟩ a' h3.df h3.tm h2 h _ fun ρ2 w2 d v s2 g1 g2 g3 g4 => ⟨ρ2, d, v, s2, rfl, Rho.le_trans h1 g1, g2, g3, g4⟩
      cases ex with
      | normal => exact fin h5
      | ret => exact fin h5
      | exit id => exact (Ok_fail h5).elim
    exact key
theorem killX_ok {keep : List Nat} : ∀ (d b : Nat) (k : HM) (s : St), Ok nb (killX keep d b k) s outs → Rel P nb base w0 ρ s.h w → ∃ s', Rel P nb base w0 ρ s'.h w ∧ Ok nb k s' outs := by
  intro d
  induction d with
  | zero => intro b k s hok r; exact ⟨s, r, hok⟩
  | succ d ih =>
    intro b k s hok r
    have hok := Ok_fN (show Ok nb (fN (Nat.succ b) fun b => Bool.rec (HM.get b fun _ => HM.set b .dead (killX keep d b k)) (killX keep d b k) (nmem b keep)) s outs from hok)
    rcases Ok_brec hok with ⟨_, hok⟩ | ⟨_, hok⟩
    · exact ih _ k s hok r
    · obtain ⟨ob, s1, hs1, hg, hok⟩ := Ok_get hok
      obtain ⟨hnb, s2, hs2, hok⟩ := Ok_set hok
      refine ih _ k s2 hok ?_
      rw [hs2, hs1]
      exact r.die (by omega) hg
theorem block0 (hnb : 1 ≤ nb) (r : Rel P nb base w0 ρ s.h w) : ∃ oc, w.heap[0]? = some oc := by
  have h1 := r.glob 0 (by omega)
  cases e : T.get s.h 1 with
  | none => have := (r.dom 1 (by omega)).2 e; rw [show (1 : Nat) = 0 + 1 from rfl, h1] at this; cases this
  | some ob => obtain ⟨oc, h, _⟩ := r.obj 1 ob 0 0 e h1 (by omega); exact ⟨oc, h⟩
/-- The functions that the small machine takes whole. -/
def PlugsOk (P : Program) (E : Env) (nb base : Nat) (w0 : World) : Prop :=
  ∀ f p, T.get E.plug (f + 1) = some p → (∃ fn, P.funcs[f]? = some fn ∧ fn.body.isNone = false ∧ fn.name ≠ "runtime.NumGoroutine") ∧
    ∀ (args : List DVal) (vargs : Array Value) (ρ : Rho) (w : World) (s : St) (outs : Outs) (n : Nat) (ro : Option Nat), Rel P nb base w0 ρ s.h w → VsRel ρ args vargs.toList → Ok nb (p args) s outs → CallsIn (Fw ro) n P f vargs w (Retd P nb base w0 ρ outs)
theorem callF_sound {ih : IH} (hnb : 1 ≤ nb) (he : EOk P E) (hp : PlugsOk P E nb base w0) (hs : SoundC P nb base w0 ih) {f : Nat} {args : List DVal} {vargs : Array Value} {n : Nat} {ro : Option Nat}
    (r : Rel P nb base w0 ρ s.h w) (ha : VsRel ρ args vargs.toList) (hok : Ok nb (callF E ih f args) s outs) :
    (∃ fn, P.funcs[f]? = some fn ∧ fn.body.isNone = false ∧ fn.name ≠ "runtime.NumGoroutine") ∧ CallsIn (Fw ro) n P f vargs w (Retd P nb base w0 ρ outs) := by
  have hok : Ok nb (Option.rec (Option.rec .fail (fun fn => Option.rec (bodyF E ih f fn args)
      (fun _ => HM.new .dead fun n0 => HM.sub false (bodyF E ih f fn args) fun v _ _ => HM.new .dead fun n1 => killX (refsD v) (Nat.sub (Nat.sub n1 n0) 1) n0 (.ret v)) (T.get E.cln (Nat.succ f))) (T.get E.fns (Nat.succ f))) (fun p => p args) (T.get E.plug (Nat.succ f))) s outs := by
    cases E; exact hok
  rcases Ok_orec hok with ⟨_, hok⟩ | ⟨p, hpl, hok⟩
  · rcases Ok_orec hok with ⟨_, hok⟩ | ⟨fn, hfn, hok⟩
    · exact (Ok_fail hok).elim
    · obtain ⟨h1, h2, h3⟩ := he.fns f fn hfn
      rcases Ok_orec hok with ⟨_, hok⟩ | ⟨_, _, hok⟩
      · obtain ⟨g1, g2⟩ := bodyF_sound (n := n) (ro := ro) he hs h1 h3 r ha hok
        exact ⟨⟨fn, h1, g1, h2⟩, g2⟩
      · obtain ⟨oc, hoc⟩ := block0 hnb r
        obtain ⟨ρ1, n0, s1, hle, _, hrel, hok⟩ := name_dead (sh := 0) hok r hoc
        have hok := Ok_sub hok
        obtain ⟨g1, g2⟩ := bodyF_sound (n := n) (ro := ro) he hs h1 h3 hrel (ha.mono hle _ _) hok
        refine ⟨⟨fn, h1, g1, h2⟩, g2.mono fun e w' hr => ?_⟩
        obtain ⟨ρ2, d, v, s2, rfl, q1, q2, q3, rd, wr, q4⟩ := hr
        obtain ⟨oc2, hoc2⟩ := block0 hnb q2
        obtain ⟨ρ3, n1, s3, hle3, _, hrel3, hok3⟩ := name_dead (s := ⟨s2.h, s2.n⟩) (sh := 0) q4 q2 hoc2
        obtain ⟨s4, hrel4, hok4⟩ := killX_ok _ _ _ s3 hok3 hrel3
        exact ⟨ρ3, d, v, s4, rfl, Rho.le_trans hle (Rho.le_trans q1 hle3), hrel4, q3.mono hle3 _ _, Ok_ret hok4⟩
  · obtain ⟨g1, g2⟩ := hp f p hpl
    exact ⟨g1, g2 args vargs ρ w s outs n ro r ha hok⟩
theorem bind_ok {n : Nat} : ∀ (params : List Nat) (vs : List DVal) (us : List Value) (tm : T DVal) (tmps : Array Value) (c : T DVal → HM), VsRel ρ vs us → TmRel ρ n tm tmps → Ok nb (roundF.bindP n params vs tm c) s outs →
    us.length = params.length ∧ ∃ tm', TmRel ρ n tm' ((params.zip us).foldl (fun tmps (p : Nat × Value) => tmps.setIfInBounds p.1 p.2) tmps) ∧ Ok nb (c tm') s outs := by
  intro params
  induction params with
  | nil =>
    intro vs us tm tmps c h ht hok
    cases vs with
    | nil => rw [h.nil_inv]; exact ⟨rfl, tm, ht, hok⟩
    | cons v vs => exact (Ok_fail hok).elim
  | cons p params ih =>
    intro vs us tm tmps c h ht hok
    cases vs with
    | nil => exact (Ok_fail hok).elim
    | cons v vs =>
      obtain ⟨u, us', rfl, h1, h2⟩ := h.cons_inv
      obtain ⟨hp, hok⟩ := Ok_chk (show Ok nb (Bool.rec .fail (fV v fun v => T.set tm (p + 1) v fun tm => roundF.bindP n params vs tm c) (Nat.blt p n)) s outs from hok)
      have hok := Ok_fV' hok
      rw [T.set_eq] at hok
      rw [blt_iff] at hp
      have hf : FRel ρ (Fr.mk tm n [] 0 none) { tmps := tmps, defers := [] } := ⟨ht, rfl⟩
      have := (hf.put (d := some p) h1 (fun t e => by cases e; exact hp)).tm
      obtain ⟨e1, tm', q1, q2⟩ := ih vs us' _ _ c h2 this hok
      exact ⟨by simp [e1], tm', q1, q2⟩
end Go.Proofs.YtcongfiojbajeaaD

/- Calls: rounds of ranges over functions; the whole. Conditions: none. -/
namespace Go.Proofs.YtcongfiojbajeaaD
open Go Go.RowKit
set_option linter.unusedVariables false
set_option linter.unusedSimpArgs false
variable {P : Program} {E : Env} {nb base : Nat} {w0 w : World} {ρ : Rho} {s : St} {outs : Outs}

theorem roundEnd_sound {l lc : Nat} {ex : Ex} {fr : Fr} {a : Act} {R : Ending → World → Prop} (hl : ρ l = some (lc, 0)) (r : Rel P nb base w0 ρ s.h w) (hok : Ok nb (roundF.roundEnd l ex fr) s outs)
    (hR : ∀ (w' : World) (d : DVal) (v : Value) (s' : St), Rel P nb base w0 ρ s'.h w' → VRel ρ d v → outs d s'.h s'.n → R (.returned v) w') : roundPost P lc R (exitOf ex) a w := by
  obtain ⟨ob, s1, hs1, hg, hok⟩ := Ok_get hok
  obtain ⟨oc, hoc, hor⟩ := r.at hl hg
  cases ob with
  | loop rl =>
    obtain ⟨_, rc, rfl, h1, h2, h3, h4, h5, h6, h7, h8, h9, h10⟩ := hor
    have fin : ∀ (st : LoopState) (pend : Option Code) (j : Option Code) (b : Bool), Ok nb (HM.set l (.loop ⟨st, pend, rl.fn, rl.tm, rl.n, rl.params, rl.assign, rl.body, rl.dfr⟩) (.ret (.bool b))) s1 outs → b = j.isNone → st = (if j.isNone then .ready else .done) → pend = j → (∀ c, j = some c → codeOkB c = true) →
        ∃ v w', (Instr.endRound lc j).run P w = .ok v w' ∧ R (.returned v) w' := by
      intro st pend j b hok e1 e2 e3 e4
      subst e1 e2 e3
      obtain ⟨hnb, s2, hs2, hok2⟩ := Ok_set hok
      refine ⟨_, _, run_endRound pend hoc, hR _ (.bool pend.isNone) (.bool pend.isNone) s2 ?_ (by simp only [VRel]) (Ok_ret hok2)⟩
      rw [hs2, hs1]
      exact r.upd hnb hg (by simp) hl (Upd.putObj _ hoc (fun _ _ _ h => by cases h)) ⟨rfl, _, rfl, rfl, rfl, h3, h4, h5, h6, h7, h8, h9, e4⟩
    cases ex with
    | normal => exact fin .ready none none true hok rfl rfl rfl (fun c h => by cases h)
    | ret => exact fin .done (some .ret) (some .ret) false hok rfl rfl rfl (fun c h => by cases h; rfl)
    | exit id => exact fin .done (some (.exit id)) (some (.exit id)) false hok rfl rfl rfl (fun c h => by cases h; rfl)
  | _ => exact (Ok_fail hok).elim
theorem roundF_sound {ih : IH} (hs : SoundC P nb base w0 ih) {l lc : Nat} {args : List DVal} {vargs : Array Value} {n : Nat} {ro : Option Nat} (r : Rel P nb base w0 ρ s.h w) (hl : ρ l = some (lc, 0)) (ha : VsRel ρ args vargs.toList)
    (hok : Ok nb (roundF ih l args) s outs) : ∃ f tmps assign body, (Instr.yield lc vargs).run P w = .ok (.round lc f tmps assign body) w ∧ RoundIn (Fw ro) n P lc f tmps assign body w (Retd P nb base w0 ρ outs) := by
  unfold roundF at hok
  obtain ⟨ob, s1, hs1, hg, hok⟩ := Ok_get hok
  obtain ⟨oc, hoc, hor⟩ := r.at hl hg
  cases ob with
  | loop rl =>
    obtain ⟨_, rc, rfl, h1, h2, h3, h4, h5, h6, h7, h8, h9, h10⟩ := hor
    obtain ⟨st, pend, fn, tm, nn, params, assign, body, dfr⟩ := rl
    cases st with
    | ready =>
      have hok1 : Ok nb (roundF.bindP nn params args tm fun tm' => ih assign (Fr.mk tm' nn [] fn (some l)) fun ex fr => match ex with
          | .normal => HM.get l fun ob => match ob with
            | .loop r => match r.st with
              | .ready => HM.set l (.loop ⟨.busy, r.pend, r.fn, r.tm, r.n, r.params, r.assign, r.body, r.dfr⟩) (ih body fr (roundF.roundEnd l))
              | _ => .fail
            | _ => .fail
          | _ => .fail) s1 outs := hok
      have hr1 : Rel P nb base w0 ρ s1.h w := by rw [hs1]; exact r
      obtain ⟨e1, tm', q1, hok2⟩ := bind_ok _ _ _ _ _ _ ha h3 hok1
      have h4 : rc.params.toList = params := h4
      have h5 : rc.assign = assign := h5
      have h6 : rc.body = body := h6
      have hsz : vargs.size = rc.params.size := by have := congrArg List.length h4; simp at this e1; omega
      refine ⟨_, _, _, _, run_yield hoc hsz, ?_⟩
      have hzip : (rc.params.zip vargs).foldl (fun tmps (t, a) => tmps.setIfInBounds t a) rc.tmps = (params.zip vargs.toList).foldl (fun tmps (p : Nat × Value) => tmps.setIfInBounds p.1 p.2) rc.tmps := by
        rw [← Array.foldl_toList, Array.toList_zip, h4]
      rw [hzip, h5, h6]
      have key : RoundIn (Fw none) n P lc rc.fn ((params.zip vargs.toList).foldl (fun tmps (p : Nat × Value) => tmps.setIfInBounds p.1 p.2) rc.tmps) assign body w (Retd P nb base w0 ρ outs) := by
        refine roundIn_of_wpIn (F := Fw none) trivial ?_
        refine (hs assign h8 (Fr.mk tm' nn [] fn (some l)) _ s1 outs { tmps := (params.zip vargs.toList).foldl (fun tmps (p : Nat × Value) => tmps.setIfInBounds p.1 p.2) rc.tmps, defers := [] } w ρ n (some lc) _ hok2 hr1 ⟨q1, rfl⟩ ⟨lc, hl, rfl⟩ fun ρ' fr' a' w' s' ex g1 g2 g3 g4 g5 => ?_).1
        cases ex with
        | normal =>
          obtain ⟨ob2, s2, hs2, hg2, hok3⟩ := Ok_get g5
          have hl' := g1.f _ _ hl
          obtain ⟨oc2, hoc2, hor2⟩ := g2.at hl' hg2
          cases ob2 with
          | loop r2 =>
            obtain ⟨_, rc2, rfl, k1, k2, k3, k4, k5, k6, k7, k8, k9, k10⟩ := hor2
            have hok4 : Ok nb (match r2.st with
              | .ready => HM.set l (.loop ⟨.busy, r2.pend, r2.fn, r2.tm, r2.n, r2.params, r2.assign, r2.body, r2.dfr⟩) (ih body fr' (roundF.roundEnd l))
              | _ => .fail) s2 outs := hok3
            cases hst : r2.st with
            | ready =>
              rw [hst] at hok4
              obtain ⟨hnb, s3, hs3, hok5⟩ := Ok_set hok4
              have hrel3 : Rel P nb base w0 ρ' s3.h (w'.putObj lc (.loop { rc2 with state := .busy })) := by
                rw [hs3, hs2]
                exact g2.upd hnb hg2 (by simp) hl' (Upd.putObj _ hoc2 (fun _ _ _ h => by cases h)) ⟨rfl, _, rfl, rfl, k2, k3, k4, k5, k6, k7, k8, k9, k10⟩
              refine ⟨_, run_beginRound hoc2 (by rw [k1]; exact hst), ?_⟩
              refine (hs body h9 fr' _ s3 outs a' _ ρ' n (some lc) _ hok5 hrel3 g3 (by rw [g4]; exact ⟨lc, hl', rfl⟩) fun ρ2 fr2 a2 w2 s4 ex2 m1 m2 m3 m4 m5 => ?_).1
              exact roundEnd_sound (m1.f _ _ hl') m2 m5 fun w3 d v s5 z1 z2 z3 => ⟨ρ2, d, v, s5, rfl, Rho.le_trans g1 m1, z1, z2, z3⟩
            | _ => rw [hst] at hok4; exact (Ok_fail hok4).elim
          | _ => exact (Ok_fail hok3).elim
        | ret => exact (Ok_fail g5).elim
        | exit id => exact (Ok_fail g5).elim
      exact key
    | _ => exact (Ok_fail hok).elim
  | _ => exact (Ok_fail hok).elim
/-! ### the whole -/
theorem exec_sound (hnb : 1 ≤ nb) (he : EOk P E) (hgl : E.gl ≤ nb) (hp : PlugsOk P E nb base w0) (hx : ExtOk P E nb base w0) : ∀ fuel, SoundC P nb base w0 (exec E fuel) ∧ CallsOk P E nb base w0 (exec E fuel) := by
  have calls : ∀ ih : IH, SoundC P nb base w0 ih → CallsOk P E nb base w0 ih := fun ih hs =>
    ⟨fun f args vargs ρ w s outs n ro r ha hok => callF_sound hnb he hp hs r ha hok, fun l c args vargs ρ w s outs n ro r hl ha hok => roundF_sound hs r hl ha hok, hx⟩
  intro fuel
  induction fuel with
  | zero => exact ⟨sound_zero, calls _ sound_zero⟩
  | succ fuel ih =>
    have := code_sound he hgl ih.1 ih.2
    exact ⟨this, calls _ this⟩
/-- A call that the small machine runs to its end ends so. -/
theorem call_of_run (hnb : 1 ≤ nb) (he : EOk P E) (hgl : E.gl ≤ nb) (hp : PlugsOk P E nb base w0) (hx : ExtOk P E nb base w0) {fuel f : Nat} {args : List DVal} {vargs : Array Value} {h : T AObj} {m : Nat} (hm : 1 ≤ m) (r : Rel P nb base w0 ρ h w) (ha : VsRel ρ args vargs.toList)
    (hr : callRun E fuel nb f args h m ≠ []) : Calls P f vargs w fun e w' => ∃ (ρ' : Rho) (o : Out) (v : Value), o ∈ callRun E fuel nb f args h m ∧ e = .returned v ∧ ρ.le ρ' ∧ Rel P nb base w0 ρ' o.h w' ∧ VRel ρ' o.v v := by
  have hok := run_ok hnb (callF E (exec E fuel) f args) false h m [] [] hr hm
  have := ((exec_sound hnb he hgl hp hx fuel).2.fn f args vargs ρ w ⟨h, m⟩ _ 0 none r ha hok).2
  have := (callsIn_wide (n := 0)).1 (show CallsIn Fence.wide 0 P f vargs w _ from this)
  refine this.mono fun e w' hw => ?_
  obtain ⟨ρ', d, v, s', rfl, h1, h2, h3, o, ho, e1, e2, e3⟩ := hw
  subst e1
  exact ⟨ρ', o, v, ho, rfl, h1, by rw [e2]; exact h2, h3⟩
end Go.Proofs.YtcongfiojbajeaaD

/- The start: tables, a heap of which nothing is known. Conditions: none. -/
namespace Go.Proofs.YtcongfiojbajeaaD
open Go Go.RowKit
set_option linter.unusedVariables false
set_option linter.unusedSimpArgs false
variable {P : Program} {nb : Nat}

/-- The program's static check. -/
def progOkB (P : Program) : Bool :=
  P.funcs.toList.all (fun fn => (match fn.body with
    | some c => codeOkB c
    | none => true) && !(fn.name == "runtime.NumGoroutine")) && (P.types.toList.all (fun i => match i.desc with
    | .struct fs => fs.toList.all fun f => Nat.blt f.type P.types.size
    | .named _ u => Nat.blt u P.types.size
    | _ => true) && P.follows .mixedOrders)
theorem info_lt {t : Nat} (h : t < P.types.size) : P.info? t = P.types[t]? := by
  unfold Tables.info?
  rw [if_pos h]
theorem env_ok (h : progOkB P = true) (plug : T (List DVal → HM)) (gl : Nat) (flat : T (List DVal → HM)) (cln : T Unit) : EOk P (envOf P plug gl flat cln) := by
  unfold progOkB at h
  simp only [Bool.and_eq_true, List.all_eq_true] at h
  obtain ⟨h1, h2, h3⟩ := h
  have hlt : ∀ {t : Nat} {i : TypeInfo}, P.types[t]? = some i → t < P.types.size := fun ht => (Array.getElem?_eq_some_iff.1 ht).1
  refine ⟨fun f fn hf => ?_, fun t i ht => ?_, h3, fun t hk fs hu f hf => ?_⟩
  · have hf : T.get (T.ofList P.funcs.toList) (f + 1) = some fn := hf
    rw [T.ofList_get] at hf
    have hfn : P.funcs[f]? = some fn := by rw [← Array.getElem?_toList]; exact hf
    have := h1 fn (List.mem_of_getElem? hf)
    refine ⟨hfn, by simpa using this.2, fun c hc => by have h4 := this.1; rw [hc] at h4; exact h4⟩
  · have ht : T.get (T.ofList P.types.toList) (t + 1) = some i := ht
    rw [T.ofList_get, Array.getElem?_toList] at ht
    rw [info_lt (hlt ht)]; exact ht
  · have key : ∀ (t : Nat) (i : TypeInfo), P.types[t]? = some i → i.desc = .struct fs → ∃ i, P.info? f.type = some i := fun t i hi hd => by
      rw [← Array.getElem?_toList] at hi
      have := h2 i (List.mem_of_getElem? hi)
      rw [hd] at this
      simp only [List.all_eq_true] at this
      have hl : f.type < P.types.size := by have := this f hf; rw [blt_iff] at this; exact this
      exact ⟨P.types[f.type], by rw [info_lt hl]; simp [hl]⟩
    have hk : T.get (T.ofList P.types.toList) (t + 1) ≠ none := hk
    rw [T.ofList_get, Array.getElem?_toList] at hk
    obtain ⟨i, ht⟩ := Option.ne_none_iff_exists'.1 hk
    unfold Program.underlying at hu
    rw [info_lt (hlt ht), ht] at hu
    have hm := h2 i (List.mem_of_getElem? (by rw [← Array.getElem?_toList] at ht; exact ht))
    cases i with
    | mk d x1 x2 x3 x4 x5 x6 x7 x8 x9 =>
      cases d with
      | named nm u =>
        have hm : Nat.blt u P.types.size = true := hm
        rw [blt_iff] at hm
        have hu : (P.info? u).map (·.desc) = some (.struct fs) := hu
        rw [info_lt hm] at hu
        cases hj : P.types[u]? with
        | none => rw [hj] at hu; cases hu
        | some j => rw [hj] at hu; exact key u j hj (by simpa using hu)
      | struct gs => exact key t _ ht (by have hu : some (TypeDesc.struct gs) = some (.struct fs) := hu; simpa using hu)
      | _ => cases hu
/-- Of the variables' blocks nothing is known. -/
noncomputable def deadHeap (nb : Nat) : T AObj := T.ofList (List.replicate nb .dead)
def rho0 (nb : Nat) : Rho := ⟨fun b => if 1 ≤ b ∧ b ≤ nb then some (b - 1, 0) else none, fun _ => none⟩
theorem rel0 {w : World} (hw : nb ≤ w.heap.size) : Rel P nb w.heap.size w (rho0 nb) (deadHeap nb) w := by
  have hget : ∀ b, 1 ≤ b → T.get (deadHeap nb) b = if b ≤ nb then some .dead else none := fun b hb => by
    obtain ⟨k, rfl⟩ : ∃ k, b = k + 1 := ⟨b - 1, by omega⟩
    unfold deadHeap
    rw [T.ofList_get]
    by_cases h : k + 1 ≤ nb
    · rw [if_pos h, List.getElem?_replicate, if_pos (by omega)]
    · rw [if_neg h, List.getElem?_replicate, if_neg (by omega)]
  have hf : ∀ b, (rho0 nb) b = if 1 ≤ b ∧ b ≤ nb then some (b - 1, 0) else none := fun _ => rfl
  refine ⟨fun b x h => ?_, fun b hb => ?_, fun b o c sh h1 h2 hb => ?_, fun b b' o o' c sh sh' hb hb' g g' d d' _ _ => ?_, fun b o c sh hb g d _ => ?_, Below.refl _ _, Nat.le_refl _, fun g hg => ?_, fun c n es h => by cases h⟩
  · rw [hf] at h
    split at h
    · rename_i hh; exact hh.1
    · cases h
  · rw [hget b hb, hf]
    by_cases h : b ≤ nb
    · rw [if_pos ⟨hb, h⟩, if_pos h]; simp
    · rw [if_neg (fun hh => h hh.2), if_neg h]; simp
  · rw [hget b hb] at h1
    rw [hf] at h2
    split at h1
    · rename_i hle
      rw [if_pos ⟨hb, hle⟩] at h2
      cases h2
      obtain rfl := Option.some.inj h1
      have : b - 1 < w.heap.size := by omega
      exact ⟨w.heap[b - 1], by simp [this], trivial⟩
    · cases h1
  · rw [hget b hb] at g
    split at g
    · exact absurd (Option.some.inj g).symm d
    · cases g
  · rw [hget b (by omega)] at g
    rw [if_neg (by omega)] at g; cases g
  · rw [hf, if_pos ⟨by omega, by omega⟩]; rfl
/-- All ways end with true. -/
noncomputable def goodB (os : List Out) : Bool := List.rec false (fun o _ _ => allTrue os) os
  where
  allTrue (os : List Out) : Bool := List.rec true (fun o _ ih => match o.v with
    | .bool b => Bool.rec false ih b
    | _ => false) os
theorem allTrue_mem : ∀ (os : List Out), goodB.allTrue os = true → ∀ o ∈ os, o.v = .bool true := by
  intro os
  induction os with
  | nil => intro _ o ho; cases ho
  | cons p os ih =>
    intro h o ho
    have h : (match p.v with
      | .bool b => Bool.rec false (goodB.allTrue os) b
      | _ => false : Bool) = true := h
    cases hp : p.v with
    | bool b =>
      rw [hp] at h
      cases b with
      | false => cases h
      | true =>
        rcases List.mem_cons.1 ho with rfl | ho
        · exact hp
        · exact ih h o ho
    | _ => rw [hp] at h; cases h
theorem good_mem {os : List Out} (h : goodB os = true) : os ≠ [] ∧ ∀ o ∈ os, o.v = .bool true := by
  cases os with
  | nil => cases h
  | cons p os => exact ⟨by simp, allTrue_mem (p :: os) h⟩
/-- A function without parameters that the small machine runs to true. -/
theorem true_of_run {E : Env} {base : Nat} (hnb : 1 ≤ nb) (he : EOk P E) (hgl : E.gl ≤ nb) {fuel f m : Nat} (hm : 1 ≤ m) {w : World} (hw : nb ≤ w.heap.size) (hp : PlugsOk P E nb w.heap.size w) (hx : ExtOk P E nb w.heap.size w) (h : goodB (callRun E fuel nb f [] (deadHeap nb) m) = true) :
    Calls P f #[] w fun e w' => e = .returned (.bool true) ∧ Below w.heap.size w w' := by
  obtain ⟨h1, h2⟩ := good_mem h
  refine (call_of_run hnb he hgl hp hx hm (rel0 hw) VsRel.nil h1).mono fun e w' hh => ?_
  obtain ⟨ρ', o, v, ho, rfl, _, hrel, hv⟩ := hh
  rw [h2 o ho] at hv
  simp only [VRel] at hv
  exact ⟨by rw [hv], hrel.below⟩
end Go.Proofs.YtcongfiojbajeaaD

/- The functions without a body. Conditions: none. -/
namespace Go.Proofs.YtcongfiojbajeaaD
open Go Go.RowKit
set_option linter.unusedVariables false
set_option linter.unusedSimpArgs false
variable {P : Program} {E : Env} {nb base : Nat} {w0 w : World} {ρ : Rho} {s : St} {outs : Outs}

/-- What is asked of one function without a body. -/
def Ext1 (P : Program) (nb base : Nat) (w0 : World) (f : Nat) (p : List DVal → HM) : Prop :=
  ∀ (args : List DVal) (vargs : Array Value) (ρ : Rho) (w : World) (s : St) (outs : Outs), Rel P nb base w0 ρ s.h w → VsRel ρ args vargs.toList → Ok nb (p args) s outs →
    ∃ v w', (callFunc f vargs).run P w = .ok (.value v) w' ∧ Retd P nb base w0 ρ outs (.returned v) w'
theorem compare_less : ∀ (a b : List UInt8), Lib.compareBytes a b = if lessL a b then -1 else if (a == b) then 0 else 1
  | [], [] => rfl
  | [], _ :: _ => rfl
  | _ :: _, [] => rfl
  | a :: x, b :: y => by
    simp only [Lib.compareBytes, lessL, compare_less x y]
    by_cases h1 : a < b
    · simp [h1]
    · by_cases h2 : b < a
      · have : ¬ a = b := fun e => by subst e; exact h1 h2
        simp [h1, h2, this]
      · have : a = b := by
          have h3 := UInt8.not_lt.1 h1
          have h4 := UInt8.not_lt.1 h2
          exact UInt8.le_antisymm h4 h3
        subst this
        simp
theorem pCompare_ok {f : Nat} (hf : ∀ args w, (callFunc f args).run P w = (do pure (.value (← Extern.BytealgCompare.compare args)) : Sem Next).run P w) : Ext1 P nb base w0 f pCompare := by
  intro args vargs ρ w s outs r ha hok
  unfold pCompare at hok
  cases args with
  | nil => exact (Ok_fail hok).elim
  | cons x args =>
    cases args with
    | nil => exact (Ok_fail hok).elim
    | cons y args =>
      cases args with
      | cons z args => exact (Ok_fail hok).elim
      | nil =>
        obtain ⟨u, us, hu, h1, h2⟩ := ha.cons_inv
        obtain ⟨u2, us2, rfl, h3, h4⟩ := h2.cons_inv
        rw [h4.nil_inv] at hu
        obtain rfl : vargs = #[u, u2] := Array.ext' hu
        cases x with
        | str n a =>
          cases y with
          | str m b =>
            simp only [VRel] at h1 h3
            obtain ⟨p, rfl, rfl, rfl⟩ := h1
            obtain ⟨q, rfl, rfl, rfl⟩ := h3
            have hrun := Lib.run_compareString (P := P) p q w
            rw [compare_less] at hrun
            refine ⟨_, w, by rw [hf, Sem.run_bind, hrun]; rfl, ?_⟩
            have hl : slt p.data.toList.length (num p.data.toList) q.data.toList.length (num q.data.toList) = lessL p.data.toList q.data.toList := by
              first | exact slt_eq _ _ | (rw [← less_eq]; exact slt_eq _ _)
            have fin : ∀ k : Int, Ok nb (.ret (.int .i64 k)) s outs → (if lessL p.data.toList q.data.toList = true then -1 else if (p.data.toList == q.data.toList) = true then 0 else 1 : Int) = k → Retd P nb base w0 ρ outs (.returned (.int .i64 (if lessL p.data.toList q.data.toList = true then -1 else if (p.data.toList == q.data.toList) = true then 0 else 1))) w := by
              intro k h e
              rw [e]
              exact ⟨ρ, _, _, s, rfl, ρ.le_refl, r, by simp only [VRel], Ok_ret h⟩
            rcases Ok_brec (show Ok nb (Bool.rec (Bool.rec (.ret (.int .i64 1)) (.ret (.int .i64 0)) (seq p.data.toList.length (num p.data.toList) q.data.toList.length (num q.data.toList))) (.ret (.int .i64 (-1))) (slt p.data.toList.length (num p.data.toList) q.data.toList.length (num q.data.toList))) s outs from hok) with ⟨hb, hok2⟩ | ⟨hb, hok2⟩
            · rw [hl] at hb
              exact fin _ hok2 (by rw [if_pos hb])
            · rw [hl] at hb
              rcases Ok_brec hok2 with ⟨hq, hok3⟩ | ⟨hq, hok3⟩
              · rw [seq_eq] at hq
                exact fin _ hok3 (by rw [hb, hq]; rfl)
              · rw [seq_eq] at hq
                exact fin _ hok3 (by rw [hb, hq]; rfl)
          | _ => exact (Ok_fail hok).elim
        | _ => exact (Ok_fail hok).elim
theorem byteOf_ok {d : DVal} {v : Value} {k : Nat → HM} (hv : VRel ρ d v) (h : Ok nb (byteOf d k) s outs) : ∃ n, v = .int .u8 (Int.ofNat n) ∧ n < 256 ∧ Ok nb (k n) s outs := by
  cases d with
  | int kd n =>
    cases kd with
    | u8 =>
      cases n with
      | ofNat n =>
        obtain ⟨hc, h⟩ := Ok_chk (show Ok nb (Bool.rec .fail (k n) (Nat.blt n 256)) s outs from h)
        rw [blt_iff] at hc
        simp only [VRel] at hv
        exact ⟨n, hv, hc, h⟩
      | negSucc n => exact (Ok_fail h).elim
    | _ => exact (Ok_fail h).elim
  | _ => exact (Ok_fail h).elim
theorem digit (pre : List UInt8) (b : UInt8) (rest : List UInt8) : Nat.mod (Nat.div (num (pre ++ b :: rest)) (Nat.pow 256 rest.length)) 256 = b.toNat := by
  have := num_get (pre ++ b :: rest) pre.length (by simp)
  rw [show (pre ++ b :: rest).length - 1 - pre.length = rest.length by simp] at this
  simp at this
  exact this.symm
theorem byte_eq (b : UInt8) (c : Nat) (hc : c < 256) : (Nat.beq b.toNat c = true) ↔ b = c.toUInt8 := by
  rw [beq_iff]
  constructor
  · intro h; apply UInt8.toNat_inj.1; simp [h]; omega
  · intro h; rw [h]; simp; omega
theorem countIn_ok (c : Nat) (hc : c < 256) : ∀ (suf pre : List UInt8) (a : Nat), Ok nb (countIn (num (pre ++ suf)) c suf.length a) s outs → Ok nb (.ret (.int .i64 (Int.ofNat (a + Lib.countByte suf c.toUInt8)))) s outs := by
  intro suf
  induction suf with
  | nil => intro pre a h; have h : Ok nb (.ret (.int .i64 (Int.ofNat a))) s outs := h; simpa [Lib.countByte] using h
  | cons b suf ih =>
    intro pre a h
    have h : Ok nb (Bool.rec (countIn (num (pre ++ b :: suf)) c suf.length a) (countIn (num (pre ++ b :: suf)) c suf.length (Nat.succ a)) (Nat.beq (Nat.mod (Nat.div (num (pre ++ b :: suf)) (Nat.pow 256 suf.length)) 256) c)) s outs := h
    rw [digit] at h
    have e : pre ++ b :: suf = (pre ++ [b]) ++ suf := by simp
    rcases Ok_brec h with ⟨hb, h⟩ | ⟨hb, h⟩
    · rw [byte_eq b c hc] at hb
      rw [e] at h
      have := ih _ _ h
      rw [show a + Lib.countByte (b :: suf) c.toUInt8 = Nat.succ a + Lib.countByte suf c.toUInt8 by simp [Lib.countByte, hb]; omega]
      exact this
    · have hb : ¬ b = c.toUInt8 := by rw [← byte_eq b c hc, hb]; simp
      rw [e] at h
      have := ih _ _ h
      rw [show a + Lib.countByte (b :: suf) c.toUInt8 = a + Lib.countByte suf c.toUInt8 by simp [Lib.countByte, hb]]
      exact this
theorem pCount_ok {f : Nat} (hf : ∀ args w, (callFunc f args).run P w = (do pure (.value (← Extern.BytealgCount.count args)) : Sem Next).run P w) : Ext1 P nb base w0 f pCount := by
  intro args vargs ρ w s outs r ha hok
  unfold pCount at hok
  cases args with
  | nil => exact (Ok_fail hok).elim
  | cons x args =>
    cases args with
    | nil => exact (Ok_fail hok).elim
    | cons y args =>
      cases args with
      | cons z args => exact (Ok_fail hok).elim
      | nil =>
        obtain ⟨u, us, hu, h1, h2⟩ := ha.cons_inv
        obtain ⟨u2, us2, rfl, h3, h4⟩ := h2.cons_inv
        rw [h4.nil_inv] at hu
        obtain rfl : vargs = #[u, u2] := Array.ext' hu
        cases x with
        | str n a =>
          simp only [VRel] at h1
          obtain ⟨p, rfl, rfl, rfl⟩ := h1
          obtain ⟨c, rfl, hc, hok2⟩ := byteOf_ok h3 hok
          have hfin := countIn_ok c hc p.data.toList [] 0 hok2
          have hrun := Lib.run_countString (P := P) p (Int.ofNat c) w
          refine ⟨_, w, by rw [hf, Sem.run_bind, hrun]; rfl, ρ, _, _, s, rfl, ρ.le_refl, r, ?_, Ok_ret hfin⟩
          simp only [VRel]
          simp
        | _ => exact (Ok_fail hok).elim
theorem firstAt_ok (c : Nat) (hc : c < 256) : ∀ (suf pre : List UInt8), Ok nb (firstAt (pre ++ suf).length (num (pre ++ suf)) c suf.length) s outs →
    Ok nb (.ret (.int .i64 (if Lib.indexByte suf c.toUInt8 = -1 then -1 else (pre.length : Int) + Lib.indexByte suf c.toUInt8))) s outs := by
  intro suf
  induction suf with
  | nil => intro pre h; exact h
  | cons b suf ih =>
    intro pre h
    have h : Ok nb (Bool.rec (firstAt (pre ++ b :: suf).length (num (pre ++ b :: suf)) c suf.length) (fN (Nat.sub (Nat.sub (pre ++ b :: suf).length 1) suf.length) fun i => .ret (.int .i64 (Int.ofNat i))) (Nat.beq (Nat.mod (Nat.div (num (pre ++ b :: suf)) (Nat.pow 256 suf.length)) 256) c)) s outs := h
    rw [digit] at h
    have e : pre ++ b :: suf = (pre ++ [b]) ++ suf := by simp
    rcases Ok_brec h with ⟨hb, h⟩ | ⟨hb, h⟩
    · rw [byte_eq b c hc] at hb
      have h := Ok_fN h
      have e1 : Nat.sub (Nat.sub (pre ++ b :: suf).length 1) suf.length = pre.length := by
        show (pre ++ b :: suf).length - 1 - suf.length = _
        simp
      rw [e1] at h
      have e2 : Lib.indexByte (b :: suf) c.toUInt8 = 0 := by simp [Lib.indexByte, hb]
      rw [e2, if_neg (by decide), Int.add_zero]
      exact h
    · have hb : ¬ b = c.toUInt8 := by rw [← byte_eq b c hc, hb]; simp
      rw [e] at h
      have := ih _ h
      have hb2 : (b == c.toUInt8) = false := by simpa using hb
      have e2 : Lib.indexByte (b :: suf) c.toUInt8 = if Lib.indexByte suf c.toUInt8 = -1 then -1 else Lib.indexByte suf c.toUInt8 + 1 := by
        simp [Lib.indexByte, hb2]
      have hge := Lib.indexByte_ge suf c.toUInt8
      rw [e2]
      by_cases hm : Lib.indexByte suf c.toUInt8 = -1
      · rw [if_pos hm] at this
        rw [if_pos hm, if_pos rfl]; exact this
      · rw [if_neg hm] at this
        rw [if_neg hm, if_neg (by omega)]
        have e3 : ((pre ++ [b]).length : Int) + Lib.indexByte suf c.toUInt8 = (pre.length : Int) + (Lib.indexByte suf c.toUInt8 + 1) := by simp; omega
        rw [← e3]; exact this
theorem pIndexByte_ok {f : Nat} (hf : ∀ args w, (callFunc f args).run P w = (do pure (.value (← Extern.BytealgIndexByte.indexByte args)) : Sem Next).run P w) : Ext1 P nb base w0 f pIndexByte := by
  intro args vargs ρ w s outs r ha hok
  unfold pIndexByte at hok
  cases args with
  | nil => exact (Ok_fail hok).elim
  | cons x args =>
    cases args with
    | nil => exact (Ok_fail hok).elim
    | cons y args =>
      cases args with
      | cons z args => exact (Ok_fail hok).elim
      | nil =>
        obtain ⟨u, us, hu, h1, h2⟩ := ha.cons_inv
        obtain ⟨u2, us2, rfl, h3, h4⟩ := h2.cons_inv
        rw [h4.nil_inv] at hu
        obtain rfl : vargs = #[u, u2] := Array.ext' hu
        cases x with
        | str n a =>
          simp only [VRel] at h1
          obtain ⟨p, rfl, rfl, rfl⟩ := h1
          obtain ⟨c, rfl, hc, hok2⟩ := byteOf_ok h3 hok
          have hfin := firstAt_ok c hc p.data.toList [] hok2
          have hrun := Lib.run_indexByteString (P := P) p (Int.ofNat c) w
          refine ⟨_, w, by rw [hf, Sem.run_bind, hrun]; rfl, ρ, _, _, s, rfl, ρ.le_refl, r, ?_, Ok_ret hfin⟩
          simp only [VRel]
          have : (Int.ofNat c).toNat = c := rfl
          rw [this]
          congr 1
          by_cases hm : Lib.indexByte p.data.toList c.toUInt8 = -1
          · rw [if_pos hm, hm]
          · rw [if_neg hm]; simp
        | _ => exact (Ok_fail hok).elim
end Go.Proofs.YtcongfiojbajeaaD

/- The tables of the functions that are taken whole. Conditions: none. -/
namespace Go.Proofs.YtcongfiojbajeaaD
open Go Go.RowKit
set_option linter.unusedVariables false
variable {P : Program} {E : Env} {nb base : Nat} {w0 : World}
theorem plugsOf_get : ∀ (l : List (Nat × (List DVal → HM))) (f : Nat) (p : List DVal → HM), T.get (plugsOf l) (f + 1) = some p → (f, p) ∈ l
  | [], f, p, h => by
    rw [show plugsOf [] = (T.nil : T (List DVal → HM)) from rfl, T.get_nil] at h
    cases h
  | q :: l, f, p, h => by
    have e : plugsOf (q :: l) = T.set (plugsOf l) (Nat.succ q.1) q.2 id := rfl
    rw [e, T.set_eq] at h
    have h : T.get (T.put (plugsOf l) (q.1 + 1) q.2) (f + 1) = some p := h
    rw [T.get_put _ _ _ _ (by omega) (by omega)] at h
    by_cases hq : f + 1 = q.1 + 1
    · rw [if_pos hq] at h
      have h1 : f = q.1 := by omega
      rw [h1, ← Option.some.inj h]
      exact List.mem_cons_self ..
    · rw [if_neg hq] at h
      exact List.mem_cons_of_mem _ (plugsOf_get l f p h)
theorem extOk_of (l : List (Nat × (List DVal → HM))) (hl : E.flat = plugsOf l) (h : ∀ q ∈ l, Ext1 P nb base w0 q.1 q.2) : ExtOk P E nb base w0 := by
  intro f p hg args vargs ρ w s outs r ha hok
  rw [hl] at hg
  exact h _ (plugsOf_get l f p hg) args vargs ρ w s outs r ha hok
theorem plugsOk_nil (hl : E.plug = .nil) : PlugsOk P E nb base w0 := by
  intro f p hg
  rw [hl, T.get_nil] at hg
  cases hg
/-- A function without parameters that the small machine runs to true, with no function with a body taken whole. -/
theorem true_plain {fl : List (Nat × (List DVal → HM))} {cln : T Unit} {fuel f : Nat} (hP : progOkB P = true) (hx : ∀ w : World, ∀ q ∈ fl, Ext1 P 1 w.heap.size w q.1 q.2)
    (h : goodB (callRun (envOf P .nil 0 (plugsOf fl) cln) fuel 1 f [] (deadHeap 1) 2) = true) (w : World) (hw : 1 ≤ w.heap.size) :
    Calls P f #[] w fun e w' => e = .returned (.bool true) ∧ Below w.heap.size w w' :=
  true_of_run (base := 0) (Nat.le_refl 1) (env_ok hP _ _ _ _) (Nat.zero_le _) (by omega) hw (plugsOk_nil rfl) (extOk_of fl rfl (hx w)) h
end Go.Proofs.YtcongfiojbajeaaD

/- Calls that were run once, told in a table: what such a function answers at such arguments, in whatever heap. Conditions: none. -/
namespace Go.Proofs.YtcongfiojbajeaaD
open Go Go.RowKit
set_option linter.unusedVariables false
variable {P : Program} {E : Env} {nb base : Nat} {w0 w : World} {ρ : Rho} {s : St} {outs : Outs} {h : T AObj}
theorem Rel.later (r : Rel P nb base w0 ρ h w) {w' : World} (hb : Below w.heap.size w w') : Rel P nb base w0 ρ h w' := by
  have hin : ∀ {c : Nat} {oc : Obj}, w.heap[c]? = some oc → w'.heap[c]? = some oc := fun {c oc} hc => by
    have hlt : c < w.heap.size := (Array.getElem?_eq_some_iff.1 hc).1
    rw [hb.block c hlt]; exact hc
  refine ⟨r.pos, r.dom, fun b o c sh g e h1 => ?_, r.inj, r.low, r.below.trans (hb.mono r.size), r.hbase, r.glob, fun c n es hl => ?_⟩
  · obtain ⟨oc, h2, h3⟩ := r.obj b o c sh g e h1
    exact ⟨oc, hin h2, h3⟩
  · obtain ⟨a, e, fz, i, h1, h2⟩ := r.lims c n es hl
    exact ⟨a, e, fz, i, hin h1, h2⟩
mutual
/-- Values that hold no place of the heap. -/
def flatV : DVal → Bool
  | .bool _ => true
  | .int _ _ => true
  | .str _ _ => true
  | .nilp => true
  | .nils => true
  | .nilm => true
  | .nilf => true
  | .nili => true
  | .unk => true
  | .sym _ _ _ _ _ => true
  | .opq _ => true
  | .agg cs => flatVs cs
  | .tuple vs => flatVs vs
  | .iface _ v => flatV v
  | _ => false
def flatVs : List DVal → Bool
  | [] => true
  | d :: ds => flatV d && flatVs ds
end
mutual
theorem flatV_rel (ρ ρ' : Rho) : ∀ (d : DVal) (v : Value), flatV d = true → VRel ρ d v → VRel ρ' d v
  | .bool b, v, _, hv => by simpa [VRel] using hv
  | .int k n, v, _, hv => by simpa [VRel] using hv
  | .str n x, v, _, hv => by simpa [VRel] using hv
  | .nilp, v, _, hv => by simpa [VRel] using hv
  | .nils, v, _, hv => by simpa [VRel] using hv
  | .nilm, v, _, hv => by simpa [VRel] using hv
  | .nilf, v, _, hv => by simpa [VRel] using hv
  | .nili, v, _, hv => by simpa [VRel] using hv
  | .unk, v, _, hv => by simpa [VRel] using hv
  | .sym _ _ _ _ _, v, _, hv => by simpa only [VRel] using hv
  | .opq u, v, _, hv => by simpa [VRel] using hv
  | .agg cs, v, hf, hv => by
    simp only [VRel] at hv ⊢
    obtain ⟨a, h1, h2, h3⟩ := hv
    exact ⟨a, h1, flatVs_rel ρ ρ' cs _ (by simpa [flatV] using hf) h2, h3⟩
  | .tuple vs, v, hf, hv => by
    simp only [VRel] at hv ⊢
    obtain ⟨a, h1, h2⟩ := hv
    exact ⟨a, h1, flatVs_rel ρ ρ' vs _ (by simpa [flatV] using hf) h2⟩
  | .iface t d, v, hf, hv => by
    simp only [VRel] at hv ⊢
    obtain ⟨u, h1, h2⟩ := hv
    exact ⟨u, h1, flatV_rel ρ ρ' d u (by simpa [flatV] using hf) h2⟩
  | .ptr _ _, _, hf, _ => by simp [flatV] at hf
  | .slice _ _ _ _ _, _, hf, _ => by simp [flatV] at hf
  | .map _, _, hf, _ => by simp [flatV] at hf
  | .func _ _ _, _, hf, _ => by simp [flatV] at hf
  | .yld _, _, hf, _ => by simp [flatV] at hf
theorem flatVs_rel (ρ ρ' : Rho) : ∀ (ds : List DVal) (vs : List Value), flatVs ds = true → VsRel ρ ds vs → VsRel ρ' ds vs
  | [], vs, _, hv => by simpa [VsRel] using hv
  | d :: ds, vs, hf, hv => by
    simp only [VsRel] at hv ⊢
    simp only [flatVs, Bool.and_eq_true] at hf
    obtain ⟨v, us, h1, h2, h3⟩ := hv
    exact ⟨v, us, h1, flatV_rel ρ ρ' d v hf.1 h2, flatVs_rel ρ ρ' ds us hf.2 h3⟩
end
/-- All ways end with this value. -/
noncomputable def allOut (out : DVal) (os : List Out) : Bool := List.rec true (fun o _ ih => Bool.rec false ih (sameV o.v out)) os
noncomputable def endsOut (out : DVal) (os : List Out) : Bool := List.rec false (fun o os _ => allOut out (o :: os)) os
theorem allOut_mem (out : DVal) : ∀ os, allOut out os = true → ∀ o ∈ os, o.v = out := by
  intro os
  induction os with
  | nil => intro _ o ho; cases ho
  | cons p os ih =>
    intro hh o ho
    have hh : (Bool.rec false (allOut out os) (sameV p.v out) : Bool) = true := hh
    cases hp : sameV p.v out with
    | false => rw [hp] at hh; cases hh
    | true =>
      rw [hp] at hh
      rcases List.mem_cons.1 ho with rfl | ho
      · exact sameV_eq _ _ hp
      · exact ih hh o ho
theorem endsOut_mem {out : DVal} {os : List Out} (hh : endsOut out os = true) : os ≠ [] ∧ ∀ o ∈ os, o.v = out := by
  cases os with
  | nil => cases hh
  | cons p os => exact ⟨by simp, allOut_mem out (p :: os) hh⟩
/-- A table of calls. -/
noncomputable def pMemo (l : List (List DVal × DVal)) (vs : List DVal) : HM :=
  List.rec .fail (fun p _ ih => Prod.rec (fun a o => Bool.rec ih (.ret o) (sameVs a vs)) p) l
/-- What is asked of one function with a body that is taken whole. -/
def Plug1 (P : Program) (nb base : Nat) (w0 : World) (f : Nat) (p : List DVal → HM) : Prop :=
  (∃ fn, P.funcs[f]? = some fn ∧ fn.body.isNone = false ∧ fn.name ≠ "runtime.NumGoroutine") ∧
    ∀ (args : List DVal) (vargs : Array Value) (ρ : Rho) (w : World) (s : St) (outs : Outs) (n : Nat) (ro : Option Nat), Rel P nb base w0 ρ s.h w → VsRel ρ args vargs.toList → Ok nb (p args) s outs → CallsIn (Fw ro) n P f vargs w (Retd P nb base w0 ρ outs)
theorem plugsOk_of (l : List (Nat × (List DVal → HM))) (hl : E.plug = plugsOf l) (h : ∀ q ∈ l, Plug1 P nb base w0 q.1 q.2) : PlugsOk P E nb base w0 := by
  intro f p hg
  rw [hl] at hg
  exact h _ (plugsOf_get l f p hg)
/-- A run at such arguments, in a heap of which nothing is known, ends with such a value. -/
def Memo1 (P : Program) (f : Nat) (a : List DVal) (o : DVal) : Prop :=
  ∀ (vargs : Array Value) (w : World) (n : Nat) (ro : Option Nat), 1 ≤ w.heap.size → VsRel (rho0 1) a vargs.toList → CallsIn (Fw ro) n P f vargs w fun e w' => ∃ v ρ', e = .returned v ∧ VRel ρ' o v ∧ Below w.heap.size w w'
theorem memo_of_run (he : EOk P E) (hgl : E.gl ≤ 1) (hp : ∀ w : World, PlugsOk P E 1 w.heap.size w) (hx : ∀ w : World, ExtOk P E 1 w.heap.size w) {fuel f m : Nat} {a : List DVal} {o : DVal} (hm : 1 ≤ m)
    (hr : endsOut o (callRun E fuel 1 f a (deadHeap 1) m) = true) : Memo1 P f a o := by
  intro vargs w n ro hw ha
  obtain ⟨h1, h2⟩ := endsOut_mem hr
  have hok := run_ok (Nat.le_refl 1) (callF E (exec E fuel) f a) false (deadHeap 1) m [] [] h1 hm
  have := ((exec_sound (Nat.le_refl 1) he hgl (hp w) (hx w) fuel).2.fn f a vargs (rho0 1) w ⟨deadHeap 1, m⟩ _ n ro (rel0 hw) ha hok).2
  refine this.mono fun e w' hh => ?_
  obtain ⟨ρ', d, v, s', rfl, q1, q2, q3, q, hq, e1, e2, e3⟩ := hh
  refine ⟨v, ρ', rfl, ?_, q2.below⟩
  rw [← h2 q hq, e1]; exact q3
theorem pMemo_ok (hnb : 1 ≤ nb) {f : Nat} {fn : Func} (hfn : P.funcs[f]? = some fn) (hb : fn.body.isNone = false) (hn : fn.name ≠ "runtime.NumGoroutine") (l : List (List DVal × DVal))
    (hl : ∀ q ∈ l, flatVs q.1 = true ∧ flatV q.2 = true ∧ Memo1 P f q.1 q.2) : Plug1 P nb base w0 f (pMemo l) := by
  refine ⟨⟨fn, hfn, hb, hn⟩, fun args vargs ρ w s outs n ro r ha hok => ?_⟩
  have key : ∀ k : List (List DVal × DVal), (∀ q ∈ k, q ∈ l) → Ok nb (pMemo k args) s outs → CallsIn (Fw ro) n P f vargs w (Retd P nb base w0 ρ outs) := by
    intro k
    induction k with
    | nil => intro _ hok; exact (Ok_fail hok).elim
    | cons q k ih =>
      intro hk hok
      obtain ⟨a, o⟩ := q
      have hok : Ok nb (Bool.rec (pMemo k args) (.ret o) (sameVs a args)) s outs := hok
      rcases Ok_brec hok with ⟨hs, hok2⟩ | ⟨hs, hok2⟩
      · have hfin := Ok_ret hok2
        clear hok hok2
        obtain ⟨f1, f2, hM⟩ := hl _ (hk _ (List.mem_cons_self ..))
        obtain rfl := sameVs_eq _ _ hs
        obtain ⟨oc, hoc⟩ := block0 hnb r
        have hsz : 1 ≤ w.heap.size := by have := (Array.getElem?_eq_some_iff.1 hoc).1; omega
        refine (hM vargs w n ro hsz (flatVs_rel _ _ _ _ f1 ha)).mono fun e w' hh => ?_
        obtain ⟨v, ρ', rfl, hv, hbel⟩ := hh
        exact ⟨ρ, o, v, s, rfl, ρ.le_refl, r.later hbel, flatV_rel _ _ _ _ f2 hv, hfin⟩
      · exact ih (fun q hq => hk q (List.mem_cons_of_mem _ hq)) hok2
  exact key l (fun _ hq => hq) hok
theorem extOk_nil (hl : E.flat = .nil) : ExtOk P E nb base w0 := by
  intro f p hg
  rw [hl, T.get_nil] at hg
  cases hg
/-- A call that the small machine runs to true. -/
theorem true_args {fuel f m : Nat} {a : List DVal} {vargs : Array Value} (he : EOk P E) (hgl : E.gl ≤ 1) (hm : 1 ≤ m) {w : World} (hw : 1 ≤ w.heap.size) (hp : PlugsOk P E 1 w.heap.size w) (hx : ExtOk P E 1 w.heap.size w)
    (ha : VsRel (rho0 1) a vargs.toList) (h : goodB (callRun E fuel 1 f a (deadHeap 1) m) = true) : Calls P f vargs w fun e w' => e = .returned (.bool true) ∧ Below w.heap.size w w' := by
  obtain ⟨h1, h2⟩ := good_mem h
  refine (call_of_run (Nat.le_refl 1) he hgl hp hx hm (rel0 hw) ha h1).mono fun e w' hh => ?_
  obtain ⟨ρ', o, v, ho, rfl, _, hrel, hv⟩ := hh
  rw [h2 o ho] at hv
  simp only [VRel] at hv
  exact ⟨by rw [hv], hrel.below⟩
end Go.Proofs.YtcongfiojbajeaaD

/- A builder of texts: its check, its text; room for bytes. Conditions: none. -/
namespace Go.Proofs.YtcongfiojbajeaaD
open Go Go.RowKit
set_option linter.unusedVariables false
set_option linter.unusedSimpArgs false
variable {P : Program} {E : Env} {nb base : Nat} {w0 w : World} {ρ : Rho} {s : St} {outs : Outs} {h : T AObj}
/-- A function that does what its plug tells. -/
theorem plug_of_calls {f : Nat} {fn : Func} (hfn : P.funcs[f]? = some fn) (hb : fn.body.isNone = false) (hn : fn.name ≠ "runtime.NumGoroutine") {p : List DVal → HM}
    (hc : ∀ (args : List DVal) (vargs : Array Value) (ρ : Rho) (w : World) (s : St) (outs : Outs), Rel P nb base w0 ρ s.h w → VsRel ρ args vargs.toList → Ok nb (p args) s outs → Calls P f vargs w (Retd P nb base w0 ρ outs)) : Plug1 P nb base w0 f p := by
  refine ⟨⟨fn, hfn, hb, hn⟩, fun args vargs ρ w s outs n ro r ha hok => ?_⟩
  have := (callsIn_wide (n := n)).2 (hc args vargs ρ w s outs r ha hok)
  cases ro with
  | none => exact this
  | some l => exact this
/-- strings.Builder's copyCheck, of a builder that is a block of its own: T its type. -/
noncomputable def pCheckIn (b : Nat) (l : List DVal) : HM := match l with
  | [] => .fail
  | a :: l => match l with
    | [] => .fail
    | _ :: l => match l with
      | [] => match a with
        | .nilp => storeC b 0 [.ptr b 0] (.ret (.tuple []))
        | .ptr b' o' => Bool.rec .fail (.ret (.tuple [])) (Bool.and (Nat.beq b b') (Nat.beq o' 0))
        | _ => .fail
      | _ => .fail
noncomputable def pCheckP (p : Nat → Bool) (vs : List DVal) : HM := match vs with
  | x :: l => match l with
    | [] => match x with
      | .ptr b o => Nat.rec (HM.get b fun ob => match ob with
        | .cells cs e opn _ _ => Bool.rec .fail (pCheckIn b cs) (Bool.and (Bool.not opn) (p e))
        | _ => .fail) (fun _ _ => .fail) o
      | _ => .fail
    | _ => .fail
  | _ => .fail
theorem pCheckP_ok {p : Nat → Bool} {f : Nat} {fn : Func} (hfn : P.funcs[f]? = some fn) (hb : fn.body.isNone = false) (hn : fn.name ≠ "runtime.NumGoroutine")
    (used : ∀ (c : Nat) (w : World), w.cell? ⟨c, 0, none⟩ = some (.pointer (some ⟨c, 0, none⟩)) → Calls P f #[.pointer (some ⟨c, 0, none⟩)] w fun e w' => e = .returned (.tuple #[]) ∧ w' = w)
    (fresh : ∀ (c T : Nat) (w : World), p T = true → w.cell? ⟨c, 0, none⟩ = some (.pointer none) → w.shape? c = some (T, 2) → w.frozen? ⟨c, 0, none⟩ = false →
      Calls P f #[.pointer (some ⟨c, 0, none⟩)] w fun e w' => e = .returned (.tuple #[]) ∧ w' = w.setCell ⟨c, 0, none⟩ (.pointer (some ⟨c, 0, none⟩))) : Plug1 P nb base w0 f (pCheckP p) := by
  refine plug_of_calls hfn hb hn fun args vargs ρ w s outs r ha hok0 => ?_
  unfold pCheckP at hok0
  cases args with
  | nil => exact (Ok_fail hok0).elim
  | cons x args =>
    cases args with
    | cons y args => exact (Ok_fail hok0).elim
    | nil =>
    cases x with
    | ptr b o =>
      cases o with
      | succ o => exact (Ok_fail hok0).elim
      | zero =>
        obtain ⟨u, us, hu, h1, h2⟩ := ha.cons_inv
        rw [h2.nil_inv] at hu
        simp only [VRel] at h1
        obtain ⟨c, sh, hρ, rfl⟩ := h1
        obtain ⟨ob, s1, hs1, hg, hok1⟩ := Ok_get hok0
        clear hok0
        have r1 : Rel P nb base w0 ρ s1.h w := by rw [hs1]; exact r
        obtain ⟨oc, hoc, hor⟩ := r.at hρ hg
        cases ob with
        | cells cs e opn fl fh =>
          obtain ⟨c', fz, rfl, g1, g2, g3, g4, g5⟩ := hor.cells_inv
          obtain ⟨hc, hok2⟩ := Ok_chk (show Ok nb (Bool.rec .fail (pCheckIn b cs) (Bool.and (Bool.not opn) (p e))) s1 outs from hok1)
          clear hok1
          rw [bandD] at hc
          obtain ⟨ho, he⟩ := hc
          have ho : opn = false := by cases opn <;> simp_all
          obtain ⟨hsh, hsz⟩ := g2 ho
          subst hsh
          obtain rfl : vargs = #[.pointer (some ⟨c, 0 + 0, none⟩)] := Array.ext' hu
          cases cs with
          | nil => exact (Ok_fail hok2).elim
          | cons a l =>
            cases l with
            | nil => exact (Ok_fail hok2).elim
            | cons a2 l =>
              cases l with
              | cons a3 l => exact (Ok_fail hok2).elim
              | nil =>
                have hl : ∃ u0 u1, c' = #[u0, u1] := by
                  have hsz : c'.size = 2 := hsz
                  obtain ⟨l⟩ := c'
                  match l, hsz with
                  | [u0, u1], _ => exact ⟨u0, u1, rfl⟩
                obtain ⟨u0, u1, rfl⟩ := hl
                obtain ⟨v0, vs0, hv0, k1, k2⟩ := (show VsRel ρ [a, a2] [u0, u1] from g3).cons_inv
                obtain ⟨e1, e2⟩ := List.cons.inj hv0
                subst e1
                have hcell : w.cell? ⟨c, 0, none⟩ = some u0 := by rw [cell_at hoc]; rfl
                cases a with
                | nilp =>
                  simp only [VRel] at k1
                  have hok3 : Ok nb (storeC b 0 [.ptr b 0] (.ret (.tuple []))) s1 outs := hok2
                  obtain ⟨w', s2, hst, hrel, hok4⟩ := storeC_sim (P := P) (us := [.pointer (some ⟨c, 0, none⟩)]) hρ (VsRel.cons (by simp only [VRel]; exact ⟨c, 0, hρ, rfl⟩) VsRel.nil) rfl hok3 r1
                  have hst : (store ((⟨c, 0 + 0, none⟩ : Addr).add 0) (.pointer (some ⟨c, 0, none⟩))).run P w = .ok () w' := by
                    have : (storeCells ⟨c, 0 + 0, none⟩ [Value.pointer (some ⟨c, 0, none⟩)]).run P w = .ok () w' := hst
                    simp only [storeCells, Sem.run_bind] at this
                    cases hx : (store ((⟨c, 0 + 0, none⟩ : Addr).add 0) (.pointer (some ⟨c, 0, none⟩))).run P w with
                    | ok z wz => rw [hx] at this; simpa using this
                    | halt z wz => rw [hx] at this; cases this
                  rw [show (⟨c, 0 + 0, none⟩ : Addr).add 0 = ⟨c, 0, none⟩ from by rw [add_at], run_store P w _ _ _ rfl, hcell] at hst
                  have hfz : w.frozen? ⟨c, 0, none⟩ = false := by
                    cases hq : w.frozen? ⟨c, 0, none⟩ with
                    | false => rfl
                    | true => rw [hq] at hst; cases hst
                  rw [hfz] at hst
                  have hw : w.setCell ⟨c, 0, none⟩ (.pointer (some ⟨c, 0, none⟩)) = w' := by injection hst
                  refine (fresh c _ w he (by rw [hcell, k1]) (by unfold World.shape?; rw [hoc]; rfl) hfz).mono fun e w2 hh => ?_
                  obtain ⟨rfl, rfl⟩ := hh
                  rw [hw]
                  exact ⟨ρ, _, _, s2, rfl, ρ.le_refl, hrel, by simp only [VRel]; exact ⟨#[], rfl, VsRel.nil⟩, Ok_ret hok4⟩
                | ptr b' o' =>
                  obtain ⟨hq, hok3⟩ := Ok_chk (show Ok nb (Bool.rec .fail (.ret (.tuple [])) (Bool.and (Nat.beq b b') (Nat.beq o' 0))) s1 outs from hok2)
                  rw [bandD, beq_iff, beq_iff] at hq
                  obtain ⟨q1, q2⟩ := hq
                  subst q1 q2
                  simp only [VRel] at k1
                  obtain ⟨c2, sh2, hρ2, hu0⟩ := k1
                  rw [hρ] at hρ2
                  cases hρ2
                  refine (used c w (by rw [hcell, hu0])).mono fun e w2 hh => ?_
                  obtain ⟨rfl, rfl⟩ := hh
                  exact ⟨ρ, _, _, s1, rfl, ρ.le_refl, r1, by simp only [VRel]; exact ⟨#[], rfl, VsRel.nil⟩, Ok_ret hok3⟩
                | _ => exact (Ok_fail hok2).elim
        | _ => exact (Ok_fail hok1).elim
    | _ => exact (Ok_fail hok0).elim
noncomputable def pCheck (T : Nat) (vs : List DVal) : HM := pCheckP (fun e => Nat.beq e T) vs
theorem pCheck_ok {T f : Nat} {fn : Func} (hfn : P.funcs[f]? = some fn) (hb : fn.body.isNone = false) (hn : fn.name ≠ "runtime.NumGoroutine")
    (used : ∀ (c : Nat) (w : World), w.cell? ⟨c, 0, none⟩ = some (.pointer (some ⟨c, 0, none⟩)) → Calls P f #[.pointer (some ⟨c, 0, none⟩)] w fun e w' => e = .returned (.tuple #[]) ∧ w' = w)
    (fresh : ∀ (c : Nat) (w : World), w.cell? ⟨c, 0, none⟩ = some (.pointer none) → w.shape? c = some (T, 2) → w.frozen? ⟨c, 0, none⟩ = false →
      Calls P f #[.pointer (some ⟨c, 0, none⟩)] w fun e w' => e = .returned (.tuple #[]) ∧ w' = w.setCell ⟨c, 0, none⟩ (.pointer (some ⟨c, 0, none⟩))) : Plug1 P nb base w0 f (pCheck T) :=
  pCheckP_ok hfn hb hn used fun c U w hU h1 h2 h3 => fresh c w h1 (by rw [h2, Nat.eq_of_beq_eq_true hU]) h3
/-- A builder that lies in a block of its own, or of a struct of it alone. -/
noncomputable def pCheck2 (T T2 : Nat) (vs : List DVal) : HM := pCheckP (fun e => Bool.or (Nat.beq e T) (Nat.beq e T2)) vs
theorem pCheck2_ok {T T2 f : Nat} {fn : Func} (hfn : P.funcs[f]? = some fn) (hb : fn.body.isNone = false) (hn : fn.name ≠ "runtime.NumGoroutine")
    (used : ∀ (c : Nat) (w : World), w.cell? ⟨c, 0, none⟩ = some (.pointer (some ⟨c, 0, none⟩)) → Calls P f #[.pointer (some ⟨c, 0, none⟩)] w fun e w' => e = .returned (.tuple #[]) ∧ w' = w)
    (fresh : ∀ (c : Nat) (w : World), w.cell? ⟨c, 0, none⟩ = some (.pointer none) → w.shape? c = some (T, 2) → w.frozen? ⟨c, 0, none⟩ = false →
      Calls P f #[.pointer (some ⟨c, 0, none⟩)] w fun e w' => e = .returned (.tuple #[]) ∧ w' = w.setCell ⟨c, 0, none⟩ (.pointer (some ⟨c, 0, none⟩)))
    (fresh2 : ∀ (c : Nat) (w : World), w.cell? ⟨c, 0, none⟩ = some (.pointer none) → w.shape? c = some (T2, 2) → w.frozen? ⟨c, 0, none⟩ = false →
      Calls P f #[.pointer (some ⟨c, 0, none⟩)] w fun e w' => e = .returned (.tuple #[]) ∧ w' = w.setCell ⟨c, 0, none⟩ (.pointer (some ⟨c, 0, none⟩))) : Plug1 P nb base w0 f (pCheck2 T T2) :=
  pCheckP_ok hfn hb hn used fun c U w hU h1 h2 h3 => by
    have hU : Bool.or (Nat.beq U T) (Nat.beq U T2) = true := hU
    cases h : Nat.beq U T with
    | true => exact fresh c w h1 (by rw [h2, Nat.eq_of_beq_eq_true h]) h3
    | false =>
      rw [h] at hU
      have hU : Nat.beq U T2 = true := hU
      exact fresh2 c w h1 (by rw [h2, Nat.eq_of_beq_eq_true hU]) h3
/-- Room for bytes, of whatever bytes. -/
theorem unks_len (n : Nat) : (unks n).length = n := by induction n with | zero => rfl | succ n ih => show (unks n).length + 1 = _; rw [ih]
theorem unks_rel : ∀ (n : Nat) (vs : List Value), vs.length = n → (∀ v ∈ vs, v.oneCell' = true) → VsRel ρ (unks n) vs
  | 0, [], _, _ => VsRel.nil
  | n + 1, v :: vs, h, h1 => VsRel.cons (by simp only [VRel]; exact h1 v (by simp)) (unks_rel n vs (by simpa using h) fun x hx => h1 x (by simp [hx]))
theorem digits_one : ∀ (n t : Nat) (acc : Array Value), (∀ v ∈ acc.toList, v.oneCell' = true) → ∀ v ∈ (Extern.BytealgMakeNoZero.digits n t acc).toList, v.oneCell' = true
  | 0, _, acc, h => h
  | n + 1, t, acc, h => by
    rw [Extern.BytealgMakeNoZero.digits]
    exact digits_one n _ _ fun v hv => by
      rw [Array.toList_push, List.mem_append] at hv
      rcases hv with hv | hv
      · exact h v hv
      · rw [List.mem_singleton.1 hv]; rfl
noncomputable def pRoom (e : Nat) (vs : List DVal) : HM := match vs with
  | x :: l => match l with
    | [] => match x with
      | .int k n => match k with
        | .i64 => Int.rec (fun n => Bool.rec .fail (HM.new (.cells (unks n) e true 1 0) fun b => .ret (.slice b 0 n n 2)) (Nat.ble n 1000000)) (fun _ => .fail) n
        | _ => .fail
      | _ => .fail
    | _ => .fail
  | _ => .fail
theorem run_room (w : World) (ps : Array TypeId) (t e : TypeId) (ht : P.underlying t = some (.slice e)) (n : Nat) (hn : n ≤ 281474976710656) :
    ∃ cs : Array Value, (Extern.BytealgMakeNoZero.makeNoZero ps #[t] #[.int .i64 n]).run P w = .ok (.slice (some ⟨w.heap.size, 0, none⟩) n cs.size) (w.drew.drew.alloc (.cells cs e)) ∧ n ≤ cs.size ∧ (∀ v ∈ cs.toList, v.oneCell' = true) := by
  have hdef : Extern.BytealgMakeNoZero.makeNoZero ps #[t] #[.int .i64 n] =
      (do
        let .slice elem ← underlying t | stuck "bytealg.MakeNoZero: slice type expected"
        if (n : Int) < 0 || (n : Int) > 2 ^ 48 then runtimePanic (.error "makeslice: len out of range")
        let cap ← choose (.appendCap (n : Int).toNat 0 elem)
        askRoom cap
        let bytes ← choose (.extern "internal/bytealg.MakeNoZero.bytes" 0)
        let a ← newRow elem (Extern.BytealgMakeNoZero.digits cap bytes #[])
        pure (.slice (some a) (n : Int).toNat cap)) := rfl
  refine ⟨Extern.BytealgMakeNoZero.digits (grownCap w n 0 e) ((Question.extern "internal/bytealg.MakeNoZero.bytes" 0).cut (w.tape (w.drawn + 1) (.extern "internal/bytealg.MakeNoZero.bytes" 0))) #[], ?_, ?_, digits_one _ _ _ (by simp)⟩
  · rw [hdef]
    have h1 : ¬ (n : Int) < 0 := by omega
    have h2 : ¬ (281474976710656 : Int) < (n : Int) := by omega
    simp [run_underlying ht, h1, h2, Question.forced, newRow, Lib.size_digits, grownCap]
  · rw [Lib.size_digits]
    simpa using grownCap_ge w n 0 e
theorem unks_ones : ∀ n, ones (unks n) = true
  | 0 => rfl
  | n + 1 => by
    have := unks_ones n
    show ones (.unk :: unks n) = true
    simp only [YtcongfiojbajeaaD.ones, List.all_cons, Bool.and_eq_true] at this ⊢
    exact ⟨rfl, this⟩
theorem pRoom_ok {f e t : Nat} {ps : Array TypeId} {i : TypeInfo} (ht : P.underlying t = some (.slice e)) (hi : P.info? e = some i) (h1 : i.size = 1)
    (hf : ∀ args w, (callFunc f args).run P w = (do pure (.value (← Extern.BytealgMakeNoZero.makeNoZero ps #[t] args)) : Sem Next).run P w) : Ext1 P nb base w0 f (pRoom e) := by
  intro args vargs ρ w s outs r ha hok0
  unfold pRoom at hok0
  cases args with
  | nil => exact (Ok_fail hok0).elim
  | cons x args =>
    cases args with
    | cons y args => exact (Ok_fail hok0).elim
    | nil =>
      obtain ⟨u, us, hu, hv, h2⟩ := ha.cons_inv
      rw [h2.nil_inv] at hu
      obtain rfl : vargs = #[u] := Array.ext' hu
      cases x with
      | int k n =>
        cases k with
        | i64 =>
          cases n with
          | ofNat n =>
            have hok1 : Ok nb (Bool.rec .fail (HM.new (.cells (unks n) e true 1 0) fun b => .ret (.slice b 0 n n 2)) (Nat.ble n 1000000)) s outs := hok0
            obtain ⟨hn, hok2⟩ := Ok_chk hok1
            rw [ble_iff] at hn
            simp only [VRel] at hv
            subst hv
            obtain ⟨cs, hrun, hge, hone⟩ := run_room (P := P) w ps t e ht n (by omega)
            obtain ⟨ρ', b, s2, hle, hb, hlim, hrel, hok3⟩ := new_open hok2 r hi (c' := cs) (fz := (0, 0)) (by rw [unks_len]; exact hge)
              (by rw [unks_len]; exact unks_rel n _ (by rw [List.length_take, Array.length_toList]; omega) fun v hv => hone v (List.mem_of_mem_take hv)) (unks_ones n) (fun i h1 h2 h3 => by omega) (fun _ => rfl)
              (w' := w.drew.drew.alloc (.cells cs e)) (World.alloc_heap_new w.drew.drew _) (fun k ok h => alloc_old w.drew.drew _ k ok h) (((Below.refl base w).drew.drew).alloc (by have := r.size; exact this) _)
            rw [h1] at hlim
            refine ⟨_, _, by rw [hf, Sem.run_bind]; show Result.andThen ((Extern.BytealgMakeNoZero.makeNoZero ps #[t] #[.int .i64 (n : Int)]).run P w) _ = _; rw [hrun]; rfl, ρ', _, _, s2, rfl, hle, hrel, ?_, Ok_ret hok3⟩
            exact slice_open hb hlim hge (by omega)
          | negSucc n => exact (Ok_fail hok0).elim
        | _ => exact (Ok_fail hok0).elim
      | _ => exact (Ok_fail hok0).elim
/-! ### the builder's text -/
noncomputable def pStr (B : Nat) (vs : List DVal) : HM := match vs with
  | x :: l => match l with
    | [] => match x with
      | .ptr b o => HM.get b fun ob => match ob with
        | .cells cs _ _ _ _ => Option.rec .fail (fun v => match v with
          | .nils => .ret (.str 0 0)
          | .slice b2 o2 l _ _ => Nat.rec .fail (fun l' _ => HM.get b2 fun ob => match ob with
            | .cells cs e op fl fh => Bool.rec .fail (lsplit HM.fail o2 cs fun _ r => lsplit HM.fail (Nat.succ l') r fun a _ => snum a 0 0 fun n x => Bool.rec (fN (Nat.min fl o2) fun fl => fN (Nat.max fh (Nat.add o2 (Nat.succ l'))) fun fh => HM.set b2 (.cells cs e op fl fh) (.ret (.str n x))) (HM.set b2 .dead (.ret (.str n x))) (Nat.beq (Nat.add fl fh) 0)) (Bool.and (Nat.beq e B) (Nat.ble l' 1000000000000))
            | _ => .fail) l
          | _ => .fail) (lget cs (Nat.succ o))
        | _ => .fail
      | _ => .fail
    | _ => .fail
  | _ => .fail
/-- In a row of so many bytes, n of them lie side by side from off on. -/
theorem liesAt_off {e : TypeId} (hc : P.cellsOf e = 1) (count off n : Nat) (hn : off + n ≤ count) : liesAt P P.depth e count off e n = true := by
  have hd : P.depth = (2 * (P.types.size + Made.depth) + 1) + 1 := rfl
  rw [hd]
  simp only [liesAt, Bool.or_eq_true]
  left
  rw [hd]
  simp [rowAt, hc, hn, sameLayout, Nat.mod_one]
/-- unsafe.String over some of a row's bytes. -/
theorem run_str_at (w : World) (pt it ty e : TypeId) (hp : P.underlying pt = some (.pointer e)) (hc : P.cellsOf e = 1) (g off cells : Nat) (hsh : w.shape? g = some (e, cells)) (l : List UInt8) (h0 : l ≠ []) (hn : off + l.length ≤ cells) (h63 : l.length ≤ 9223372036854775807)
    (hcell : ∀ j x, l[j]? = some x → w.cell? ((⟨g, off, none⟩ : Addr).add j) = some (.int .u8 x.toNat)) :
    (Builtin.unsafeString_ #[pt, it] ty #[.pointer (some ⟨g, off, none⟩), .int .i64 l.length]).run P w = .ok (.string ⟨l.toArray⟩) (w.freeze ⟨g, off, none⟩ l.length) := by
  have hl : l.length ≠ 0 := by simpa using h0
  have hlb := Lib.run_loadBytes (P := P) w l ⟨g, off, none⟩ .empty hcell
  have hlies := liesAt_off (P := P) hc (cells / P.cellsOf e) off l.length (by rw [hc]; simpa using hn)
  have h63' : ¬ (9223372036854775807 : Int) < (l.length : Int) := by omega
  have hdef : Builtin.unsafeString_ #[pt, it] ty #[.pointer (some ⟨g, off, none⟩), .int .i64 l.length] =
      (do
        let n ← asInt (.int .i64 l.length)
        if n < 0 then runtimePanic (.error "unsafe.String: len out of range")
        if n > IntKind.i64.max then unsupported (.unsafePointer "String: a length above the largest int")
        if n = 0 then pure (.string .empty)
        else if ← variablesAt ⟨g, off, none⟩ (← elemOf pt) n.toNat then do
          let s ← loadBytes ⟨g, off, none⟩ .empty n.toNat
          freeze ⟨g, off, none⟩ n.toNat
          pure (.string s)
        else unsupported (.unsafePointer "String: not so many bytes at ptr")) := rfl
  rw [hdef]
  have hmax : IntKind.i64.max = 9223372036854775807 := rfl
  have hneg : ¬ (l.length : Int) < 0 := by omega
  simp [asInt, asIntOf, hmax, h63', hneg, hl, variablesAt, hsh, elemOf, run_underlying hp, hlies, hlb]
theorem Upd.freeze {w : World} {c : Nat} {cur : Array Value} {e : TypeId} {fz : Nat × Nat} (h : w.heap[c]? = some (.cells cur e fz)) (o n : Nat) (hn : n ≠ 0) :
    ∃ fz' : Nat × Nat, fz' = (if fz.1 == fz.2 then (o, o + n) else (min fz.1 o, max fz.2 (o + n))) ∧ Upd c (.cells cur e fz') w (w.freeze ⟨c, o, none⟩ n) := by
  have hlt := (Array.getElem?_eq_some_iff.1 h).1
  obtain ⟨lo, hi⟩ := fz
  refine ⟨_, rfl, ?_⟩
  unfold World.freeze
  rw [if_neg hn]
  refine ⟨rfl, rfl, rfl, by simp, by simp [Array.getElem?_modify, h], fun k hk => by simp [Array.getElem?_modify, Ne.symm hk], fun a' e' fz' h' => ?_⟩
  rw [h] at h'; cases h'; exact ⟨cur, _, rfl, rfl⟩
theorem pStr_ok {B f : Nat} {fn : Func} (hfn : P.funcs[f]? = some fn) (hb : fn.body.isNone = false) (hn : fn.name ≠ "runtime.NumGoroutine")
    (none_ : ∀ (c o : Nat) (w : World), w.cell? ⟨c, o + 1, none⟩ = some (.slice none 0 0) → Calls P f #[.pointer (some ⟨c, o, none⟩)] w fun e w' => e = .returned (.string .empty) ∧ w' = w.drew)
    (full : ∀ (c o g off cp cells : Nat) (l : List UInt8) (w : World), w.cell? ⟨c, o + 1, none⟩ = some (.slice (some ⟨g, off, none⟩) l.length cp) → l ≠ [] → l.length ≤ cp → w.shape? g = some (B, cells) → off + l.length ≤ cells → l.length ≤ 9223372036854775807 →
      (∀ j x, l[j]? = some x → w.cell? ((⟨g, off, none⟩ : Addr).add j) = some (.int .u8 x.toNat)) →
      Calls P f #[.pointer (some ⟨c, o, none⟩)] w fun e w' => e = .returned (.string ⟨l.toArray⟩) ∧ w' = w.drew.freeze ⟨g, off, none⟩ l.length) : Plug1 P nb base w0 f (pStr B) := by
  refine plug_of_calls hfn hb hn fun args vargs ρ w s outs r ha hok0 => ?_
  unfold pStr at hok0
  cases args with
  | nil => exact (Ok_fail hok0).elim
  | cons x args =>
    cases args with
    | cons y args => exact (Ok_fail hok0).elim
    | nil =>
    cases x with
    | ptr b o =>
      obtain ⟨u, us, hu, h1, h2⟩ := ha.cons_inv
      rw [h2.nil_inv] at hu
      simp only [VRel] at h1
      obtain ⟨c, sh, hρ, rfl⟩ := h1
      obtain rfl : vargs = #[.pointer (some ⟨c, sh + o, none⟩)] := Array.ext' hu
      obtain ⟨ob, s1, hs1, hg, hok1⟩ := Ok_get hok0
      clear hok0
      have r1 : Rel P nb base w0 ρ s1.h w := by rw [hs1]; exact r
      obtain ⟨oc, hoc, hor⟩ := r.at hρ hg
      cases ob with
      | cells cs e opn fl fh =>
        obtain ⟨c', fz, rfl, g1, g2, g3, g4, g5⟩ := hor.cells_inv
        simp only at hok1
        rw [lget_eq] at hok1
        cases hq : cs[Nat.succ o]? with
        | none => rw [hq] at hok1; exact (Ok_fail hok1).elim
        | some v =>
          rw [hq] at hok1
          obtain ⟨uv, k1, k2⟩ := g3.get hq
          have hlen : Nat.succ o < cs.length := (List.getElem?_eq_some_iff.1 hq).1
          have hcell : w.cell? ⟨c, sh + o + 1, none⟩ = some uv := by
            rw [cell_at hoc, ← Array.getElem?_toList]
            rw [List.getElem?_take, if_pos hlen, List.getElem?_drop] at k1
            rw [← k1, Nat.add_assoc]
          cases v with
          | nils =>
            simp only [VRel] at k2
            subst k2
            refine (none_ c (sh + o) w hcell).mono fun e w2 hh => ?_
            obtain ⟨rfl, rfl⟩ := hh
            exact ⟨ρ, _, _, s1, rfl, ρ.le_refl, r1.draw _, by simp only [VRel]; exact ⟨.empty, rfl, rfl, rfl⟩, Ok_ret hok1⟩
          | slice b2 o2 l cp ex =>
            simp only [VRel] at k2
            obtain ⟨c2, sh2, cp', hρ2, rfl, hcp, hex, hl, hlim⟩ := k2
            cases l with
            | zero => exact (Ok_fail hok1).elim
            | succ l' =>
              obtain ⟨ob2, s2, hs2, hg2, hok2⟩ := Ok_get hok1
              clear hok1
              have r2 : Rel P nb base w0 ρ s2.h w := by rw [hs2]; exact r1
              obtain ⟨oc2, hoc2, hor2⟩ := r1.at hρ2 hg2
              cases ob2 with
              | cells cs2 e2 opn2 fl2 fh2 =>
                obtain ⟨d', fz2, rfl, q1, q2, q3, q4, q5⟩ := hor2.cells_inv
                obtain ⟨hB, hok3⟩ := Ok_chk (show Ok nb (Bool.rec .fail (lsplit HM.fail o2 cs2 fun _ r => lsplit HM.fail (Nat.succ l') r fun a _ => snum a 0 0 fun n x => Bool.rec (fN (Nat.min fl2 o2) fun fl => fN (Nat.max fh2 (Nat.add o2 (Nat.succ l'))) fun fh => HM.set b2 (.cells cs2 e2 opn2 fl fh) (.ret (.str n x))) (HM.set b2 .dead (.ret (.str n x))) (Nat.beq (Nat.add fl2 fh2) 0)) (Bool.and (Nat.beq e2 B) (Nat.ble l' 1000000000000))) s2 outs from hok2)
                clear hok2
                rw [bandD, beq_iff, ble_iff] at hB
                obtain ⟨hB, hbig⟩ := hB
                subst hB
                rw [lsplit_eq] at hok3
                by_cases hl1 : o2 ≤ cs2.length
                · rw [if_pos hl1, lsplit_eq] at hok3
                  by_cases hl2 : Nat.succ l' ≤ (cs2.drop o2).length
                  · rw [if_pos hl2] at hok3
                    have hl3 : l' + 1 ≤ cs2.length - o2 := by simpa using hl2
                    obtain ⟨ns, hns, hpos, hok4⟩ := snum_ok _ _ _ _ _ (sub_rel q3 (show o2 + (l' + 1) ≤ cs2.length by omega)) hok3
                    clear hok3
                    have hnl : ns.length = l' + 1 := by have := congrArg List.length hns; simp at this; omega
                    have hcells : ∀ j x, (ns.map fun n => UInt8.ofNat n.toNat)[j]? = some x → w.cell? ((⟨c2, sh2 + o2, none⟩ : Addr).add j) = some (.int .u8 x.toNat) := fun j x hj => by
                      rw [add_at, cell_at hoc2, ← Array.getElem?_toList]
                      rw [List.getElem?_map] at hj
                      obtain ⟨n, hn1, rfl⟩ := Option.map_eq_some_iff.1 hj
                      have hjl : j < l' + 1 := by rw [← hnl]; exact (List.getElem?_eq_some_iff.1 hn1).1
                      have := congrArg (fun l => l[j]?) hns
                      simp only [List.getElem?_map, hn1, Option.map_some] at this
                      rw [List.getElem?_take, if_pos hjl, List.getElem?_drop] at this
                      rw [this]
                      have hk := hpos n (List.mem_of_getElem? hn1)
                      congr 1
                      simp; omega
                    have hlen2 : (ns.map fun n => UInt8.ofNat n.toNat).length = l' + 1 := by simp [hnl]
                    obtain ⟨fz', hfz', hupd⟩ := Upd.freeze (w := w.drew) (c := c2) hoc2 (sh2 + o2) (l' + 1) (by omega)
                    obtain ⟨s3, hrel, hok5⟩ : ∃ s3 : St, Rel P nb base w0 ρ s3.h (w.drew.freeze ⟨c2, sh2 + o2, none⟩ (l' + 1)) ∧ Ok nb (.ret (.str (0 + ((cs2.drop o2).take (Nat.succ l')).length) (ns.foldl (fun a k => a * 256 + k.toNat) 0))) s3 outs := by
                      rcases Ok_brec hok4 with ⟨hz, hok5⟩ | ⟨hz, hok5⟩
                      · obtain ⟨hnb2, s3, hs3, hok6⟩ := Ok_set hok5
                        exact ⟨s3, by rw [hs3]; exact (r2.draw (w.drawn + 1)).upd (o' := .dead) (sh := sh2) hnb2 (by rw [hs2]; exact hg2) (by simp) hρ2 hupd trivial, hok6⟩
                      · have hz' : fl2 + fh2 ≠ 0 := fun e => by
                          have : Nat.beq (Nat.add fl2 fh2) 0 = true := by rw [beq_iff]; exact e
                          rw [this] at hz; cases hz
                        have hok5 := Ok_fN hok5
                        have hok5 := Ok_fN hok5
                        obtain ⟨hnb2, s3, hs3, hok6⟩ := Ok_set hok5
                        have hin : sh2 + min fl2 o2 ≤ fz'.1 ∧ fz'.2 ≤ sh2 + max fh2 (o2 + (l' + 1)) := by
                          rw [hfz']
                          rcases q5.2 hz' with h | ⟨h1, h2⟩
                          · rw [if_pos (by simpa using h)]; simp only; omega
                          · split <;> simp only <;> omega
                        have hfo : FzOk fz' (Nat.min fl2 o2) (Nat.max fh2 (Nat.add o2 (Nat.succ l'))) sh2 d'.size := by
                          have e1 : Nat.min fl2 o2 = min fl2 o2 := rfl
                          have e2 : Nat.max fh2 (Nat.add o2 (Nat.succ l')) = max fh2 (o2 + (l' + 1)) := rfl
                          rw [e1, e2]
                          exact ⟨fun i i1 i2 i3 i4 => by omega, fun _ => .inr hin⟩
                        exact ⟨s3, by rw [hs3]; exact (r2.draw (w.drawn + 1)).upd (o' := .cells cs2 e2 opn2 (Nat.min fl2 o2) (Nat.max fh2 (Nat.add o2 (Nat.succ l')))) (sh := sh2) hnb2 (by rw [hs2]; exact hg2) (by simp) hρ2 hupd ⟨d', fz', rfl, q1, q2, q3, q4, hfo⟩, hok6⟩
                    have hcall := full c (sh + o) c2 (sh2 + o2) cp' d'.size (ns.map fun n => UInt8.ofNat n.toNat) w (by rw [hlen2]; exact hcell) (by intro h0; rw [h0] at hlen2; simp at hlen2) (by rw [hlen2]; omega) (by unfold World.shape?; rw [hoc2]) (by rw [hlen2]; omega) (by rw [hlen2]; omega) hcells
                    rw [hlen2] at hcall
                    refine hcall.mono fun e w3 hh => ?_
                    obtain ⟨rfl, rfl⟩ := hh
                    refine ⟨ρ, _, _, s3, rfl, ρ.le_refl, hrel, ?_, Ok_ret hok5⟩
                    simp only [VRel]
                    refine ⟨_, rfl, ?_, ?_⟩
                    · simp only [hlen2]; simp; omega
                    · simp only; rw [fold_num _ _ hpos]; rfl
                  · rw [if_neg hl2] at hok3; exact (Ok_fail hok3).elim
                · rw [if_neg hl1] at hok3; exact (Ok_fail hok3).elim
              | _ => exact (Ok_fail hok2).elim
          | _ => exact (Ok_fail hok1).elim
      | _ => exact (Ok_fail hok1).elim
    | _ => exact (Ok_fail hok0).elim
end Go.Proofs.YtcongfiojbajeaaD

/- Calls one behind the other, and what is in between. Conditions: none. -/
namespace Go.Proofs.YtcongfiojbajeaaD
open Go Go.RowKit
set_option linter.unusedVariables false
variable {P : Program} {E : Env} {nb base : Nat} {w0 w : World} {ρ : Rho} {s : St} {outs : Outs}
/-- The next call of some that the small machine has run. -/
theorem sub_call (hnb : 1 ≤ nb) (he : EOk P E) (hgl : E.gl ≤ nb) (hp : PlugsOk P E nb base w0) (hx : ExtOk P E nb base w0) {fuel f : Nat} {args : List DVal} {vargs : Array Value} {l : Bool} {k : DVal → List Nat → List Nat → HM}
    (hok : Ok nb (.sub l (callF E (exec E fuel) f args) k) s outs) (r : Rel P nb base w0 ρ s.h w) (ha : VsRel ρ args vargs.toList) :
    Calls P f vargs w fun e w' => ∃ (ρ' : Rho) (d : DVal) (v : Value) (s' : St) (rd wr : List Nat), e = .returned v ∧ ρ.le ρ' ∧ Rel P nb base w0 ρ' s'.h w' ∧ VRel ρ' d v ∧ Ok nb (k d rd wr) s' outs := by
  have hok := Ok_sub hok
  have := ((exec_sound hnb he hgl hp hx fuel).2.fn f args vargs ρ w s _ 0 none r ha hok).2
  have := (callsIn_wide (n := 0)).1 (show CallsIn Fence.wide 0 P f vargs w _ from this)
  refine this.mono fun e w' hw => ?_
  obtain ⟨ρ', d, v, s', rfl, h1, h2, h3, rd, wr, h4⟩ := hw
  exact ⟨ρ', d, v, s', rd, wr, rfl, h1, h2, h3, h4⟩
/-- The third of three values is such a number. -/
noncomputable def third (k : Int) (v : DVal) : Bool := match v with
  | .tuple l => match l with
    | _ :: l => match l with
      | _ :: l => match l with
        | x :: l => match l with
          | [] => match x with
            | .int kd n => Bool.and (keq kd .i64) (ieq n k)
            | _ => false
          | _ => false
        | _ => false
      | _ => false
    | _ => false
  | _ => false
noncomputable def thirds (k : Int) (os : List Out) : Bool := List.rec true (fun o _ ih => Bool.rec false ih (third k o.v)) os
noncomputable def endsThird (k : Int) (os : List Out) : Bool := List.rec false (fun o os _ => thirds k (o :: os)) os
theorem thirds_mem (k : Int) : ∀ os, thirds k os = true → ∀ o ∈ os, third k o.v = true := by
  intro os
  induction os with
  | nil => intro _ o ho; cases ho
  | cons p os ih =>
    intro hh o ho
    have hh : (Bool.rec false (thirds k os) (third k p.v) : Bool) = true := hh
    cases hp : third k p.v with
    | false => rw [hp] at hh; cases hh
    | true =>
      rw [hp] at hh
      rcases List.mem_cons.1 ho with rfl | ho
      · exact hp
      · exact ih hh o ho
theorem endsThird_mem {k : Int} {os : List Out} (hh : endsThird k os = true) : os ≠ [] ∧ ∀ o ∈ os, third k o.v = true := by
  cases os with
  | nil => cases hh
  | cons p os => exact ⟨by simp, thirds_mem k (p :: os) hh⟩
theorem third_rel {k : Int} {d : DVal} {v : Value} (h : third k d = true) (hv : VRel ρ d v) : ∃ a b, v = .tuple #[a, b, .int .i64 k] := by
  cases d with
  | tuple l =>
    simp only [VRel] at hv
    obtain ⟨a, rfl, hl⟩ := hv
    match l, h, hl with
    | [], h, _ => cases h
    | [_], h, _ => cases h
    | [_, _], h, _ => cases h
    | _ :: _ :: x :: _ :: _, h, _ => cases x <;> cases h
    | [x, y, z], h, hl =>
      obtain ⟨u1, r1, e1, _, hl⟩ := hl.cons_inv
      obtain ⟨u2, r2, rfl, _, hl⟩ := hl.cons_inv
      obtain ⟨u3, r3, rfl, h3, hl⟩ := hl.cons_inv
      rw [hl.nil_inv] at e1
      cases z with
      | int kd n =>
        have h : Bool.and (keq kd .i64) (ieq n k) = true := h
        rw [bandD, keqD, ieqD] at h
        obtain ⟨rfl, rfl⟩ := h
        simp only [VRel] at h3
        subst h3
        exact ⟨u1, u2, by rw [show a = #[u1, u2, .int .i64 n] from Array.ext' e1]⟩
      | _ => cases h
  | _ => cases h
/-- A number between such bounds. -/
theorem sym_rel {k : IntKind} {lo hi n : Int} (h1 : lo ≤ n) (h2 : n ≤ hi) : VRel ρ (.sym k lo hi 0 0) (.int k n) := by
  simp only [VRel]
  exact ⟨n, rfl, h1, h2, by show Nat.land _ 0 = 0; simp⟩
end Go.Proofs.YtcongfiojbajeaaD

/- slices.Insert, taken whole: whether there is room or not, what lies there is the same. Conditions: what is asked of the function in its three cases (InsOk). -/
namespace Go.Proofs.YtcongfiojbajeaaD
open Go Go.RowKit
set_option linter.unusedVariables false
set_option linter.unusedSimpArgs false
variable {P : Program} {E : Env} {nb base : Nat} {w0 w : World} {ρ : Rho} {s : St} {outs : Outs}
noncomputable def pInsMid (e sz : Nat) (x : DVal) (b l ex i : Nat) (y : DVal) (m : Nat) : HM :=
  cellsX sz l x fun old => cellsX sz m y fun new => lsplit HM.fail (Nat.mul i sz) old fun p q => lapp new q fun nq => lapp p nq fun cs => HM.get b fun ob => match ob with
    | .cells _ e' _ fl fh => Bool.rec .fail (HM.set b .dead (HM.new (.cells cs e true 0 0) fun b3 => .ret (.slice b3 0 (Nat.add l m) (Nat.add l m) (Nat.succ sz)))) (Bool.and (Nat.beq e' e) (Bool.and (Nat.beq ex (Nat.succ sz)) (Nat.beq (Nat.add fl fh) 0)))
    | _ => .fail
noncomputable def pInsIn (E : Env) (t e sz : Nat) (x : DVal) (i : Nat) (y : DVal) (m : Nat) : HM := match x with
  | .nils => Nat.rec (appendX E t t .nils y fun d => .ret d) (fun _ _ => .fail) i
  | .slice b o l cp ex => Bool.rec
      (Bool.rec .fail (pInsMid e sz (.slice b o l cp ex) b l ex i y m) (Bool.and (Nat.blt i l) (Nat.blt (Nat.mul (Nat.add l m) (Nat.succ sz)) 1000000)))
      (appendX E t t (.slice b o l cp ex) y fun d => .ret d) (Nat.beq i l)
  | _ => .fail
noncomputable def pInsY (E : Env) (t e sz : Nat) (x : DVal) (i : Nat) (y : DVal) : HM := match y with
  | .slice b2 o2 m cp2 ex2 => Nat.rec .fail (fun m' _ => HM.get b2 fun ob => match ob with
    | .cells cs2 e2 opn2 fl2 fh2 => Bool.rec .fail (pInsIn E t e sz x i (.slice b2 o2 (Nat.succ m') cp2 ex2) (Nat.succ m')) (Bool.and (Bool.not opn2) (Bool.and (Nat.beq fl2 1) (Nat.beq fh2 0)))
    | _ => .fail) m
  | _ => .fail
noncomputable def pIns (E : Env) (t e sz : Nat) (vs : List DVal) : HM := match vs with
  | x :: l => match l with
    | i :: l => match l with
      | y :: l => match l with
        | [] => match i with
          | .int k n => match k with
            | .i64 => Int.rec (fun i => pInsY E t e sz x i y) (fun _ => .fail) n
            | _ => .fail
          | _ => .fail
        | _ => .fail
      | _ => .fail
    | _ => .fail
  | _ => .fail
/-- The cells of so many elements. -/
def Cut (a : Array Value) (o n : Nat) : List Value := (a.toList.drop o).take n
/-- What is asked of slices.Insert. -/
structure InsOk (P : Program) (f t e sz : Nat) : Prop where
  last : ∀ (A : Option Addr) (n cp : Nat) (a2 : Addr) (m vc : Nat) (w w' : World) (v : Value), 0 < m → n ≤ cp → (A = none → n = 0 ∧ cp = 0) → (Builtin.append_ #[t, t] t #[.slice A n cp, .slice (some a2) m vc]).run P w = .ok v w' →
    Calls P f #[.slice A n cp, .int .i64 (n : Int), .slice (some a2) m vc] w fun e' w2 => e' = .returned v ∧ w2 = w'
  mid : ∀ (c off n cp i c2 off2 m vc : Nat) (a a2 : Array Value) (e2 : TypeId) (fz fz2 : Nat × Nat) (w : World), w.heap[c]? = some (.cells a e fz) → w.heap[c2]? = some (.cells a2 e2 fz2) → c2 ≠ c → 0 < m → i < n → n ≤ cp → (n + m) * (sz + 1) < 1000000 →
    off + n * sz ≤ a.size → (n + m ≤ cp → off + (n + m) * sz ≤ a.size) → off2 + m * sz ≤ a2.size → (∀ j, off ≤ j → j < a.size → ¬(fz.1 ≤ j ∧ j < fz.2)) → (∀ v ∈ Cut a off (n * sz), v.oneCell' = true) → (∀ v ∈ Cut a2 off2 (m * sz), v.oneCell' = true) → (fz2.1 = fz2.2 ∨ fz2.2 = 0) →
    Calls P f #[.slice (some ⟨c, off, none⟩) n cp, .int .i64 (i : Int), .slice (some ⟨c2, off2, none⟩) m vc] w fun e' w' =>
      (n + m ≤ cp → e' = .returned (.slice (some ⟨c, off, none⟩) (n + m) cp) ∧ ∃ a', Upd c (.cells a' e fz) w w' ∧ a'.size = a.size ∧
        Cut a' off ((n + m) * sz) = (Cut a off (n * sz)).take (i * sz) ++ (Cut a2 off2 (m * sz) ++ (Cut a off (n * sz)).drop (i * sz))) ∧
      (cp < n + m → ∃ (G : Nat) (a' : Array Value), e' = .returned (.slice (some ⟨w.heap.size, 0, none⟩) (n + m) G) ∧ n + m ≤ G ∧ w'.heap[w.heap.size]? = some (.cells a' e (0, 0)) ∧ a'.size = G * sz ∧
        Cut a' 0 ((n + m) * sz) = (Cut a off (n * sz)).take (i * sz) ++ (Cut a2 off2 (m * sz) ++ (Cut a off (n * sz)).drop (i * sz)) ∧
        (∀ (k : Nat) (ok : Obj), w.heap[k]? = some ok → w'.heap[k]? = some ok) ∧ Below w.heap.size w w')
theorem append_calls {f t e sz : Nat} (he : EOk P E) (hI : InsOk P f t e sz) {x y : DVal} {A : Option Addr} {n cp : Nat} {a2 : Addr} {m vc : Nat} (hx : VRel ρ x (.slice A n cp)) (hy : VRel ρ y (.slice (some a2) m vc)) (hm : 0 < m) (hn : n ≤ cp) (hA : A = none → n = 0 ∧ cp = 0)
    (hok : Ok nb (appendX E t t x y fun d => .ret d) s outs) (r : Rel P nb base w0 ρ s.h w) : Calls P f #[.slice A n cp, .int .i64 (n : Int), .slice (some a2) m vc] w (Retd P nb base w0 ρ outs) := by
  obtain ⟨ρ', w', d, v, s', hle, hrun, hrel, hv, hok'⟩ := append_sim he (ty := t) hx hy _ s outs hok r
  refine (hI.last A n cp a2 m vc w w' v hm hn hA hrun).mono fun e' w2 hh => ?_
  obtain ⟨rfl, rfl⟩ := hh
  exact ⟨ρ', d, v, s', rfl, hle, hrel, hv, Ok_ret hok'⟩
/-- A slice's first elements' cells. -/
theorem slice_cells {sz n b o l cp ex c sh : Nat} {K : List DVal → HM} (hρ : ρ b = some (c, sh)) (hn : 0 < n) (r : Rel P nb base w0 ρ s.h w) (hok : Ok nb (cellsX sz n (.slice b o l cp ex) K) s outs) :
    ∃ (cs : List DVal) (e : Nat) (opn : Bool) (fl fh : Nat) (a : Array Value) (fz : Nat × Nat) (s1 : St), s1.h = s.h ∧ T.get s.h b = some (.cells cs e opn fl fh) ∧ w.heap[c]? = some (.cells a e fz) ∧ o + n * sz ≤ cs.length ∧ sh + cs.length ≤ a.size ∧
      (opn = false → sh = 0 ∧ a.size = cs.length) ∧ FzOk fz fl fh sh a.size ∧ VsRel ρ ((cs.drop o).take (n * sz)) (Cut a (sh + o) (n * sz)) ∧ ones ((cs.drop o).take (n * sz)) = true ∧ Ok nb (K ((cs.drop o).take (n * sz))) s1 outs := by
  cases n with
  | zero => omega
  | succ n =>
    obtain ⟨ob, s1, hs1, hg, hok1⟩ := Ok_get hok
    obtain ⟨oc, hoc, hor⟩ := r.at hρ hg
    cases ob with
    | cells cs e opn fl fh =>
      obtain ⟨a, fz, rfl, h1, h2, h3, h4, h5⟩ := hor.cells_inv
      simp only at hok1
      rw [lsplit_eq] at hok1
      by_cases hl1 : o ≤ cs.length
      · rw [if_pos hl1, lsplit_eq] at hok1
        by_cases hl2 : Nat.mul (n + 1) sz ≤ (cs.drop o).length
        · rw [if_pos hl2] at hok1
          have hl3 : (n + 1) * sz ≤ cs.length - o := by simpa using hl2
          exact ⟨cs, e, opn, fl, fh, a, fz, s1, hs1, hg, hoc, by omega, h1, h2, h5, sub_rel h3 (by omega), ones_take _ (ones_drop _ h4), hok1⟩
        · rw [if_neg hl2] at hok1; exact (Ok_fail hok1).elim
      · rw [if_neg hl1] at hok1; exact (Ok_fail hok1).elim
    | _ => exact (Ok_fail hok1).elim
theorem Cut_length {a : Array Value} {o n : Nat} (h : o + n ≤ a.size) : (Cut a o n).length = n := by simp [Cut]; omega
theorem mid_ok {f t e sz : Nat} {inf : TypeInfo} (hinf : P.info? e = some inf) (hsz : inf.size = sz) (hI : InsOk P f t e sz) {b o l cp ex i b2 o2 m cp2 ex2 c sh cp' c2 sh2 vc : Nat} {cs2 : List DVal} {e2 : Nat}
    (hρ : ρ b = some (c, sh)) (hcp : cp ≤ cp') (hl : l ≤ cp) (hlim : ∀ es, ex = es + 1 → ∃ n, ρ.lim c = some (n, es) ∧ sh + o + cp' * es ≤ n) (hρ2 : ρ b2 = some (c2, sh2)) (hm : 0 < m) (hg2 : T.get s.h b2 = some (.cells cs2 e2 false 1 0))
    (hi : i < l) (hbig : (l + m) * (sz + 1) < 1000000) (r : Rel P nb base w0 ρ s.h w) (hok : Ok nb (pInsMid e sz (.slice b o l cp ex) b l ex i (.slice b2 o2 m cp2 ex2) m) s outs) :
    Calls P f #[.slice (some ⟨c, sh + o, none⟩) l cp', .int .i64 (i : Int), .slice (some ⟨c2, sh2 + o2, none⟩) m vc] w (Retd P nb base w0 ρ outs) := by
  unfold pInsMid at hok
  obtain ⟨cs, e1, opn, fl, fh, a, fz, s1, hs1, hg, hoc, g1, g2, g3, g4, g5, g6, hok1⟩ := slice_cells hρ (by omega) r hok
  clear hok
  have r1 : Rel P nb base w0 ρ s1.h w := by rw [hs1]; exact r
  obtain ⟨cs2', e2', opn2, fl2, fh2, a2, fz2, s2, hs2, hg2', hoc2, k1, k2, k3, k4, k5, k6, hok2⟩ := slice_cells hρ2 hm r1 hok1
  clear hok1
  have r2 : Rel P nb base w0 ρ s2.h w := by rw [hs2]; exact r1
  rw [hs1, hg2] at hg2'
  obtain ⟨z1, z2, z3, z4, z5⟩ : cs2 = cs2' ∧ e2 = e2' ∧ opn2 = false ∧ fl2 = 1 ∧ fh2 = 0 := by
    have := Option.some.inj hg2'
    injection this with z1 z2 z3 z4 z5
    exact ⟨z1, z2, z3.symm, z4.symm, z5.symm⟩
  subst z1 z2 z3 z4 z5
  obtain ⟨hsh2, _⟩ := k3 rfl
  subst hsh2
  rw [lsplit_eq, show Nat.mul i sz = i * sz from rfl] at hok2
  have hol : ((cs.drop o).take (l * sz)).length = l * sz := by simp; omega
  have hnl : ((cs2.drop o2).take (m * sz)).length = m * sz := by simp; omega
  have hisz : i * sz ≤ l * sz := Nat.mul_le_mul_right _ (by omega)
  rw [if_pos (by rw [hol]; exact hisz), lapp_eq, lapp_eq] at hok2
  obtain ⟨ob3, s3, hs3, hg3, hok3⟩ := Ok_get hok2
  clear hok2
  rw [hs2, hs1, hg] at hg3
  obtain rfl := Option.some.inj hg3
  simp only at hok3
  obtain ⟨hcc, hok4⟩ := Ok_chk hok3
  clear hok3
  rw [bandD, bandD, beq_iff, beq_iff, beq_iff] at hcc
  obtain ⟨rfl, hex, hfz⟩ := hcc
  have hfz : fl + fh = 0 := hfz
  obtain ⟨hnb, s4, hs4, hok5⟩ := Ok_set hok4
  clear hok4
  obtain ⟨hfree, hn, s5, hs5, hok6⟩ := Ok_new hok5
  obtain ⟨N, hN, hle⟩ := hlim sz hex
  have hgs : T.get s3.h b = some (.cells cs e1 opn fl fh) := by rw [hs3, hs2, hs1]; exact hg
  have r3 : Rel P nb base w0 ρ s3.h w := by rw [hs3]; exact r2
  have hdie : Rel P nb base w0 ρ s4.h w := by rw [hs4]; exact r3.die (by omega) hgs
  obtain ⟨ga, ge, gfz, gi, q1, q2, q3, q4⟩ := r.lims c N sz hN
  rw [hoc] at q1
  cases q1
  have hne : c2 ≠ c := fun h => by
    subst h
    have hb : b2 = b := r.inj b2 b _ _ c2 0 sh (r.pos _ _ hρ2) (r.pos _ _ hρ) hg2 hg (by simp) (by simp) hρ2 hρ
    subst hb
    rw [hg2] at hg
    injection hg with hg
    injection hg with z1 z2 z3 z4 z5
    omega
  have hmono : ∀ {x y : Nat}, x ≤ y → x * sz ≤ y * sz := fun h => Nat.mul_le_mul_right _ h
  have hcells : VsRel ρ (((cs.drop o).take (l * sz)).take (i * sz) ++ ((cs2.drop o2).take (m * sz) ++ ((cs.drop o).take (l * sz)).drop (i * sz)))
      ((Cut a (sh + o) (l * sz)).take (i * sz) ++ (Cut a2 (0 + o2) (m * sz) ++ (Cut a (sh + o) (l * sz)).drop (i * sz))) := (g5.take _).app (k5.app (g5.drop _))
  have hones : ones (((cs.drop o).take (l * sz)).take (i * sz) ++ ((cs2.drop o2).take (m * sz) ++ ((cs.drop o).take (l * sz)).drop (i * sz))) = true := ones_app (ones_take _ g6) (ones_app k6 (ones_drop _ g6))
  have hclen : (((cs.drop o).take (l * sz)).take (i * sz) ++ ((cs2.drop o2).take (m * sz) ++ ((cs.drop o).take (l * sz)).drop (i * sz))).length = (l + m) * sz := by
    rw [List.length_append, List.length_append, List.length_take, List.length_drop, hol, hnl, Nat.add_mul]; omega
  refine (hI.mid c (sh + o) l cp' i c2 (0 + o2) m vc a a2 e2 fz fz2 w hoc hoc2 hne hm hi (by omega) hbig (by omega) (fun h => by have := hmono h; omega) (by omega)
    (fun j j1 j2 j3 => by have := g4.1 j (by omega) j2 j3.1 j3.2; omega) (g5.ones g6) (k5.ones k6) (by rcases k4.2 (by omega) with h | ⟨_, h⟩; exact .inl h; exact .inr (by omega))).mono fun e' w' hh => ?_
  by_cases hroom : l + m ≤ cp'
  · obtain ⟨rfl, a', hupd, hsize, hcut⟩ := hh.1 hroom
    have hle' := Rho.le_add (ρ := ρ) c (sh + o) none ((hdie.dom s4.n (by omega)).2 hfree) (fun h => by cases h)
    refine ⟨ρ.add s4.n c (sh + o) none, _, _, s5, rfl, hle', ?_, ?_, Ok_ret hok6⟩
    · rw [hs5]
      refine hdie.name hn hfree hupd.same (.inl (r3.low b _ c sh hnb hgs (by simp) hρ)) (.inr fun k ok sh' hk hk1 gk dk ek => ?_) (fun k ok hk h => by rw [hupd.other k hk]; exact h) (.inr (by simp)) hupd.shape (fun h => by cases h) (fun _ _ h => by cases h)
        ⟨hupd.os, hupd.tape, hupd.output, Nat.le_of_eq hupd.size.symm, fun k hk => hupd.other k (by have := r3.low b _ c sh hnb hgs (by simp) hρ; omega)⟩ ?_
      · rw [hs4, T.get_put _ _ _ _ (by omega) hk1] at gk
        by_cases hkb : k = b
        · rw [if_pos hkb] at gk; exact dk (Option.some.inj gk).symm
        · rw [if_neg hkb] at gk
          exact hkb (r3.inj k b ok _ c sh' sh hk1 (by omega) gk hgs dk (by simp) ek hρ)
      · have hfit : sh + o + (l + m) * sz ≤ a.size := by have := hmono hroom; omega
        refine ⟨a', fz, rfl, by rw [hclen, hsize]; exact hfit, fun h => (by cases h), ?_, hones, FzOk.zero fun j j1 j2 j3 j4 => ?_⟩
        · rw [hclen]
          show VsRel _ _ (Cut a' (sh + o) ((l + m) * sz))
          rw [hcut]
          exact hcells.mono hle' _ _
        · have := g4.1 j (by omega) (by omega) j3 j4; omega
    · simp only [VRel]
      exact ⟨c, sh + o, cp', by simp [Rho.add_f], by simp, hroom, fun h => by omega, Nat.le_refl _, fun es h => ⟨N, by rw [show es = sz by omega]; exact hle'.lim _ _ hN, by rw [show es = sz by omega]; simpa using hle⟩⟩
  · obtain ⟨G, a', rfl, hG, hnew, hsize, hcut, hold, hbel⟩ := hh.2 (by omega)
    have hGs := hmono hG
    obtain ⟨ρ', b', s6, hle6, hb6, hlim6, hrel6, hok8⟩ := new_open hok5 hdie hinf (c' := a') (fz := (0, 0)) (by rw [hclen, hsize]; exact hGs) (by
      rw [hclen]
      have : a'.toList.take ((l + m) * sz) = Cut a' 0 ((l + m) * sz) := by simp [Cut]
      rw [this, hcut]; exact hcells) hones (fun j _ h2 h3 => by simp at h3) (fun _ => rfl) hnew hold (hbel.mono hdie.size)
    rw [hsz] at hlim6
    exact ⟨ρ', _, _, s6, rfl, hle6, hrel6, slice_open hb6 hlim6 hG (by rw [hsize]; exact Nat.le_refl _), Ok_ret hok8⟩
theorem pIns_ok {f t e sz : Nat} {fn : Func} {inf : TypeInfo} (he : EOk P E) (hfn : P.funcs[f]? = some fn) (hb : fn.body.isNone = false) (hn : fn.name ≠ "runtime.NumGoroutine") (hinf : P.info? e = some inf) (hsz : inf.size = sz) (hI : InsOk P f t e sz) : Plug1 P nb base w0 f (pIns E t e sz) := by
  refine plug_of_calls hfn hb hn fun args vargs ρ w s outs r ha hok0 => ?_
  unfold pIns at hok0
  cases args with
  | nil => exact (Ok_fail hok0).elim
  | cons x args =>
  cases args with
  | nil => exact (Ok_fail hok0).elim
  | cons i args =>
  cases args with
  | nil => exact (Ok_fail hok0).elim
  | cons y args =>
  cases args with
  | cons z args => exact (Ok_fail hok0).elim
  | nil =>
  obtain ⟨u, us, hu, hx, ha⟩ := ha.cons_inv
  obtain ⟨ui, us, rfl, hi, ha⟩ := ha.cons_inv
  obtain ⟨uy, us, rfl, hy, ha⟩ := ha.cons_inv
  rw [ha.nil_inv] at hu
  obtain rfl : vargs = #[u, ui, uy] := Array.ext' hu
  cases i with
  | int k n =>
    cases k with
    | i64 =>
      cases n with
      | negSucc n => exact (Ok_fail hok0).elim
      | ofNat i =>
        simp only [VRel] at hi
        subst hi
        have hok1 : Ok nb (pInsY E t e sz x i y) s outs := hok0
        clear hok0
        unfold pInsY at hok1
        cases y with
        | slice b2 o2 m cp2 ex2 =>
          have hy0 := hy
          simp only [VRel] at hy
          obtain ⟨c2, sh2, vc, hρ2, rfl, hcp2, _, hl2, _⟩ := hy
          cases m with
          | zero => exact (Ok_fail hok1).elim
          | succ m' =>
            obtain ⟨ob, s1, hs1, hg2, hok2⟩ := Ok_get hok1
            clear hok1
            have r1 : Rel P nb base w0 ρ s1.h w := by rw [hs1]; exact r
            cases ob with
            | cells cs2 e2 opn2 fl2 fh2 =>
              obtain ⟨hc, hok3⟩ := Ok_chk (show Ok nb (Bool.rec .fail (pInsIn E t e sz x i (.slice b2 o2 (Nat.succ m') cp2 ex2) (Nat.succ m')) (Bool.and (Bool.not opn2) (Bool.and (Nat.beq fl2 1) (Nat.beq fh2 0)))) s1 outs from hok2)
              clear hok2
              rw [bandD, bandD, beq_iff, beq_iff] at hc
              obtain ⟨hopn, hfl, hfh⟩ := hc
              have hopn : opn2 = false := by cases opn2 <;> simp_all
              subst hopn hfl hfh
              unfold pInsIn at hok3
              cases x with
              | nils =>
                simp only [VRel] at hx
                subst hx
                cases i with
                | succ i => exact (Ok_fail hok3).elim
                | zero => exact append_calls (n := 0) (cp := 0) he hI (by simp only [VRel]) hy0 (by omega) (Nat.le_refl _) (fun _ => ⟨rfl, rfl⟩) hok3 r1
              | slice b o l cp ex =>
                have hx0 := hx
                simp only [VRel] at hx
                obtain ⟨c, sh, cp', hρ, rfl, hcp, hex, hl, hlim⟩ := hx
                rcases Ok_brec (show Ok nb (Bool.rec
                    (Bool.rec .fail (pInsMid e sz (.slice b o l cp ex) b l ex i (.slice b2 o2 (Nat.succ m') cp2 ex2) (Nat.succ m')) (Bool.and (Nat.blt i l) (Nat.blt (Nat.mul (Nat.add l (Nat.succ m')) (Nat.succ sz)) 1000000)))
                    (appendX E t t (.slice b o l cp ex) (.slice b2 o2 (Nat.succ m') cp2 ex2) fun d => .ret d) (Nat.beq i l)) s1 outs from hok3) with ⟨hq, hok4⟩ | ⟨hq, hok4⟩
                · rw [beq_iff] at hq
                  subst hq
                  exact append_calls he hI hx0 hy0 (by omega) (by omega) (fun h => by cases h) hok4 r1
                · obtain ⟨hz, hok5⟩ := Ok_chk hok4
                  rw [bandD, blt_iff, blt_iff] at hz
                  exact mid_ok hinf hsz hI hρ hcp hl hlim hρ2 (by omega) (by rw [hs1]; exact hg2) hz.1 hz.2 r1 hok5
              | _ => exact (Ok_fail hok3).elim
            | _ => exact (Ok_fail hok2).elim
        | _ => exact (Ok_fail hok1).elim
    | _ => exact (Ok_fail hok0).elim
  | _ => exact (Ok_fail hok0).elim
/-! ### for the walks: a copy of whole elements -/
def worldOf {α : Type} (r : Result α) : World := match r with
  | .ok _ w => w
  | .halt _ w => w
/-- The world in which such cells were stored. -/
def stored (P : Program) (c o : Nat) (us : List Value) (W : World) : World := worldOf ((storeCells ⟨c, o, none⟩ us).run P W)
theorem run_copyK {t e : Nat} {inf : TypeInfo} {sz : Nat} (W : World) (hd : P.underlying t = some (.slice e)) (hinf : P.info? e = some inf) (hsz : inf.size = sz) {c od ld c2 os ls k : Nat} {a a2 : Array Value} {e1 e2 : TypeId} {fz fz2 : Nat × Nat}
    (hoc : W.heap[c]? = some (.cells a e1 fz)) (hoc2 : W.heap[c2]? = some (.cells a2 e2 fz2)) (hk : min ls ld = k) (h1 : od + k * sz ≤ a.size) (h2 : os + k * sz ≤ a2.size) (hone : ∀ v ∈ Cut a2 os (k * sz), v.oneCell' = true)
    (hfz : ∀ j, od ≤ j → j < a.size → ¬(fz.1 ≤ j ∧ j < fz.2)) :
    (∀ ty cd cs, (Builtin.copy_ #[t, t] ty #[.slice (some ⟨c, od, none⟩) ld cd, .slice (some ⟨c2, os, none⟩) ls cs]).run P W = .ok (goInt k) (stored P c od (Cut a2 os (k * sz)) W)) ∧
    Upd c (.cells (a.toList.take od ++ Cut a2 os (k * sz) ++ a.toList.drop (od + k * sz)).toArray e1 fz) W (stored P c od (Cut a2 os (k * sz)) W) := by
  have hl : (Cut a2 os (k * sz)).length = k * sz := Cut_length h2
  obtain ⟨w', hst, hupd⟩ := storeC_sim.run_store_all (P := P) (Cut a2 os (k * sz)) od hoc (by rw [hl]; exact h1) hone (fun j j1 j2 => hfz j j1 (by rw [hl] at j2; omega))
  rw [hl] at hupd
  have hs : stored P c od (Cut a2 os (k * sz)) W = w' := by unfold stored; rw [hst]; rfl
  rw [hs]
  refine ⟨fun ty cd cs => ?_, hupd⟩
  have hf : (Builtin.firstCells sz k (.slice (some ⟨c2, os, none⟩) ls cs)).run P W = .ok (Cut a2 os (k * sz)).toArray W := by
    simp only [Builtin.firstCells]
    exact run_read hoc2 h2
  have hlen : ∀ w, (Builtin.lenOf (.slice (some ⟨c2, os, none⟩) ls cs)).run P w = .ok ls w := fun w => rfl
  simp only [Builtin.copy_, List.getElem?_toArray, List.getElem?_cons_zero, List.getElem?_cons_succ, Sem.run_bind, run_underlying hd, Result.andThen_ok, hlen, hk, run_size hinf, hsz, hf, hst, Sem.run_pure, goInt]
theorem Upd.trans {c : Nat} {o1 o2 : Obj} {w1 w2 w3 : World} (h : Upd c o1 w1 w2) (k : Upd c o2 w2 w3) (hs : ∀ a e fz, w1.heap[c]? = some (.cells a e fz) → ∃ a' fz', o2 = .cells a' e fz' ∧ a'.size = a.size) : Upd c o2 w1 w3 :=
  ⟨k.os.trans h.os, k.tape.trans h.tape, k.output.trans h.output, k.size.trans h.size, k.same, fun j hj => (k.other j hj).trans (h.other j hj), hs⟩
theorem Upd.drew {c : Nat} {o : Obj} {w w' : World} (h : Upd c o w w') : Upd c o w.drew w' := ⟨h.os, h.tape, h.output, h.size, h.same, h.other, h.shape⟩
theorem Upd.undrew {c : Nat} {o : Obj} {w w' : World} (h : Upd c o w.drew w') : Upd c o w w' := ⟨h.os, h.tape, h.output, h.size, h.same, h.other, h.shape⟩
theorem app3 {α : Type} (A B C : List α) {x y : Nat} (hA : A.length = x) (hB : B.length = y) (j : Nat) : (A ++ B ++ C)[j]? = if j < x then A[j]? else if j < x + y then B[j - x]? else C[j - (x + y)]? := by
  by_cases h1 : j < x
  · rw [if_pos h1, List.append_assoc, List.getElem?_append_left (by omega)]
  · rw [if_neg h1]
    by_cases h2 : j < x + y
    · rw [if_pos h2, List.append_assoc, List.getElem?_append_right (by omega), List.getElem?_append_left (by omega), hA]
    · rw [if_neg h2, List.getElem?_append_right (by simp; omega)]
      simp [hA, hB]
theorem Cut_get {a : Array Value} {o n j : Nat} (h : j < n) : (Cut a o n)[j]? = a.toList[o + j]? := by
  unfold Cut
  rw [List.getElem?_take, if_pos h, List.getElem?_drop]
/-- What lies there behind the two copies of an insertion in place. -/
theorem cut_shift {a a1 a2 b : Array Value} {off n m i sz off2 : Nat} (hi : i ≤ n) (hfit : off + (n + m) * sz ≤ a.size) (hfit2 : off2 + m * sz ≤ b.size)
    (h1 : a1.toList = a.toList.take (off + (i + m) * sz) ++ Cut a (off + i * sz) ((n - i) * sz) ++ a.toList.drop (off + (i + m) * sz + (n - i) * sz))
    (h2 : a2.toList = a1.toList.take (off + i * sz) ++ Cut b off2 (m * sz) ++ a1.toList.drop (off + i * sz + m * sz)) :
    a2.size = a.size ∧ Cut a2 off ((n + m) * sz) = (Cut a off (n * sz)).take (i * sz) ++ (Cut b off2 (m * sz) ++ (Cut a off (n * sz)).drop (i * sz)) := by
  have e1 : (i + m) * sz = i * sz + m * sz := Nat.add_mul ..
  have e2 : (n + m) * sz = n * sz + m * sz := Nat.add_mul ..
  have e3 : (n - i) * sz = n * sz - i * sz := Nat.sub_mul ..
  have e4 : i * sz ≤ n * sz := Nat.mul_le_mul_right _ hi
  rw [e1, e3] at h1
  rw [e2] at hfit ⊢
  generalize i * sz = I at *
  generalize n * sz = N at *
  generalize m * sz = M at *
  clear e1 e2 e3
  have l1 : a1.toList.length = a.size := by rw [h1]; simp [Cut]; omega
  have l2 : a2.toList.length = a.size := by rw [h2]; simp [Cut]; simp at l1; omega
  refine ⟨by simpa using l2, ?_⟩
  have g1 : ∀ j, a1.toList[j]? = if j < off + (I + M) then (a.toList.take (off + (I + M)))[j]? else if j < off + (I + M) + (N - I) then (Cut a (off + I) (N - I))[j - (off + (I + M))]? else (a.toList.drop (off + (I + M) + (N - I)))[j - (off + (I + M) + (N - I))]? := fun j => by
    rw [h1, app3 _ _ _ (show (a.toList.take (off + (I + M))).length = off + (I + M) by simp; omega) (show (Cut a (off + I) (N - I)).length = N - I from Cut_length (by omega))]
  have g2 : ∀ j, a2.toList[j]? = if j < off + I then (a1.toList.take (off + I))[j]? else if j < off + I + M then (Cut b off2 M)[j - (off + I)]? else (a1.toList.drop (off + I + M))[j - (off + I + M)]? := fun j => by
    rw [h2, app3 _ _ _ (show (a1.toList.take (off + I)).length = off + I by rw [List.length_take, l1]; omega) (show (Cut b off2 M).length = M from Cut_length hfit2)]
  apply List.ext_getElem?
  intro j
  have hr := app3 ((Cut a off N).take I) (Cut b off2 M) ((Cut a off N).drop I) (x := I) (y := M) (by rw [List.length_take, Cut_length (by omega)]; omega) (Cut_length hfit2) j
  rw [← List.append_assoc, hr]
  clear hr h1 h2
  by_cases j1 : j < N + M
  · rw [Cut_get j1, g2]
    by_cases j2 : j < I
    · rw [if_pos (by omega), if_pos j2, List.getElem?_take, if_pos (by omega), g1, if_pos (by omega), List.getElem?_take, if_pos (by omega), List.getElem?_take, if_pos j2, Cut_get (by omega)]
    · rw [if_neg (by omega), if_neg j2]
      by_cases j3 : j < I + M
      · rw [if_pos (by omega), if_pos j3]
        congr 1; omega
      · rw [if_neg (by omega), if_neg j3, List.getElem?_drop, g1, if_neg (by omega), if_pos (by omega), Cut_get (by omega), List.getElem?_drop, Cut_get (by omega)]
        congr 1; omega
  · rw [if_neg (by omega), if_neg (by omega), List.getElem?_drop, List.getElem?_eq_none, List.getElem?_eq_none]
    · rw [Cut_length (by omega)]; omega
    · rw [Cut_length (by rw [← l2] at hfit; simpa using hfit)]; omega
/-- .. and behind the two copies into a new row. -/
theorem cut_grow {a row r2 r3 b : Array Value} {off n m i sz off2 G : Nat} (hi : i ≤ n) (hfit : off + n * sz ≤ a.size) (hfit2 : off2 + m * sz ≤ b.size) (hG : n + m ≤ G) (hrs : row.size = G * sz)
    (hrow : row.toList.take (i * sz) = Cut a off (i * sz))
    (h2 : r2.toList = row.toList.take (i * sz) ++ Cut b off2 (m * sz) ++ row.toList.drop (i * sz + m * sz))
    (h3 : r3.toList = r2.toList.take ((i + m) * sz) ++ Cut a (off + i * sz) ((n - i) * sz) ++ r2.toList.drop ((i + m) * sz + (n - i) * sz)) :
    r3.size = G * sz ∧ Cut r3 0 ((n + m) * sz) = (Cut a off (n * sz)).take (i * sz) ++ (Cut b off2 (m * sz) ++ (Cut a off (n * sz)).drop (i * sz)) := by
  have e1 : (i + m) * sz = i * sz + m * sz := Nat.add_mul ..
  have e2 : (n + m) * sz = n * sz + m * sz := Nat.add_mul ..
  have e3 : (n - i) * sz = n * sz - i * sz := Nat.sub_mul ..
  have e4 : i * sz ≤ n * sz := Nat.mul_le_mul_right _ hi
  have e5 : (n + m) * sz ≤ G * sz := Nat.mul_le_mul_right _ hG
  rw [e1, e3] at h3
  rw [e2] at e5 ⊢
  generalize i * sz = I at *
  generalize n * sz = N at *
  generalize m * sz = M at *
  generalize G * sz = Z at *
  clear e1 e2 e3
  have lr : row.toList.length = Z := by simpa using hrs
  have l2 : r2.toList.length = Z := by rw [h2]; simp [Cut]; simp at lr; omega
  have l3 : r3.toList.length = Z := by rw [h3]; simp [Cut]; simp at l2; omega
  refine ⟨by simpa using l3, ?_⟩
  have g2 : ∀ j, r2.toList[j]? = if j < I then (row.toList.take I)[j]? else if j < I + M then (Cut b off2 M)[j - I]? else (row.toList.drop (I + M))[j - (I + M)]? := fun j => by
    rw [h2, app3 _ _ _ (show (row.toList.take I).length = I by rw [List.length_take, lr]; omega) (show (Cut b off2 M).length = M from Cut_length hfit2)]
  have g3 : ∀ j, r3.toList[j]? = if j < I + M then (r2.toList.take (I + M))[j]? else if j < I + M + (N - I) then (Cut a (off + I) (N - I))[j - (I + M)]? else (r2.toList.drop (I + M + (N - I)))[j - (I + M + (N - I))]? := fun j => by
    rw [h3, app3 _ _ _ (show (r2.toList.take (I + M)).length = I + M by rw [List.length_take, l2]; omega) (show (Cut a (off + I) (N - I)).length = N - I from Cut_length (by omega))]
  apply List.ext_getElem?
  intro j
  have hr := app3 ((Cut a off N).take I) (Cut b off2 M) ((Cut a off N).drop I) (x := I) (y := M) (by rw [List.length_take, Cut_length (by omega)]; omega) (Cut_length hfit2) j
  rw [← List.append_assoc, hr]
  clear hr h2 h3
  by_cases j1 : j < N + M
  · rw [Cut_get j1, Nat.zero_add, g3]
    by_cases j2 : j < I
    · rw [if_pos (by omega), if_pos j2, List.getElem?_take, if_pos (by omega), g2, if_pos j2, hrow, Cut_get j2, List.getElem?_take, if_pos j2, Cut_get (by omega)]
    · rw [if_neg j2]
      by_cases j3 : j < I + M
      · rw [if_pos j3, if_pos j3, List.getElem?_take, if_pos j3, g2, if_neg j2, if_pos j3]
      · rw [if_neg j3, if_neg j3, if_pos (by omega), Cut_get (by omega), List.getElem?_drop, Cut_get (by omega)]
        congr 1; omega
  · rw [if_neg (by omega), if_neg (by omega), List.getElem?_drop, List.getElem?_eq_none, List.getElem?_eq_none]
    · rw [Cut_length (by omega)]; omega
    · have hl3 : r3.toList.length = r3.size := by simp
      rw [Cut_length (by omega)]; omega
end Go.Proofs.YtcongfiojbajeaaD
