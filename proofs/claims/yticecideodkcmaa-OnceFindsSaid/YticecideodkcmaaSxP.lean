/-
  Sx, part P: calls, loops, other names, freezing, returning; contracts out of runs.
-/
import Derived.Test.YticecideodkcmaaSxO
namespace Sx
open Go
set_option linter.unusedSimpArgs false
set_option linter.unusedVariables false

/-- may the operation run? -/
def goes (t : T) : Option (Nat × Bool) → Prop
  | none => True
  | some (j, want) => t j = .bool want

theorem VRels.append {ro m} {a b : List V} {x y : Array Value} (h : VRels ro m a x) (k : VRels ro m b y) : VRels ro m (a ++ b) (x ++ y) := by
  refine ⟨by simp [h.1, k.1], fun i p q => ?_⟩
  rcases Nat.lt_or_ge i a.length with h1 | h1
  · rw [List.getElem_append_left h1, Array.getElem_append_left (by rw [← h.1]; exact h1)]; exact h.2 _ _ _
  · rw [List.getElem_append_right h1, Array.getElem_append_right (by rw [← h.1]; exact h1)]
    have e : i - x.size = i - a.length := by rw [h.1]
    simp only [e]
    exact k.2 _ _ _

theorem cOp_call {P : Program} {N : Nat} {op : Op} {fo : Opd} {args : List Opd} (hcp : cOp P N op = some (.call fo args)) :
    ∃ fo' args' ats, op = .call { callee := .value fo', args := args', argTypes := ats } ∧ cOpd N fo' = some fo ∧ cOpds N args' = some args := by
  cases op
  case call cl =>
    obtain ⟨callee, cargs, ats⟩ := cl
    cases callee with
    | value f' =>
      simp only [cOp] at hcp
      split at hcp
      · split at hcp <;> cases hcp
      · split at hcp <;> cases hcp
        exact ⟨_, _, _, rfl, by assumption, by assumption⟩
    | invoke r m => simp [cOp] at hcp
    | builtin bb =>
      simp only [cOp] at hcp
      split at hcp
      case h_2 => cases hcp
      case h_1 xs hxs =>
        unfold cBuiltin at hcp
        repeat' split at hcp
        all_goals simp at hcp
  case makeFunc fn first caps => cases fn <;> simp only [cOp] at hcp <;> (repeat' split at hcp) <;> simp at hcp
  all_goals (simp only [cOp] at hcp; try (repeat' split at hcp))
  all_goals (try simp at hcp)

theorem Run.call {E : Env} {d g fo args l k t h f caps Q} (hg : goes t g) (hf : fo.ev t = .fn f caps) (htri : Tri E.P f (args.map (Opd.ev t) ++ caps) h Q)
    (hk : ∀ v h', Q v h' → Run E ⟨.ops l :: k, put t d v, h'⟩) : Run E ⟨.ops (⟨d, g, .call fo args⟩ :: l) :: k, t, h⟩ := by
  intro c0 w0 h0 c w a hadv hh ht hd b items cs hb hbk hk'
  simp only at hadv hh ht hk'
  cases hk' with | cons hx hk' => cases hx with | @ops _ ops todo hl =>
  rename_i items
  cases todo with
  | nil => simp at hl
  | cons i todo =>
    obtain ⟨⟨o, ho, hco⟩, hl'⟩ := ops_cons hl
    obtain ⟨hcp, hdst, hdN, hgd⟩ := cOper_spec hco
    obtain ⟨w1, w2⟩ := wanted_of ht hgd
    have hw : Region.wanted o (yielded ops a.tmps) = true := by
      cases g with
      | none => exact w1 rfl
      | some jw => obtain ⟨j, want⟩ := jw; rw [w2.1 j want want rfl hg]; simp
    obtain ⟨odst, op, ty, pos, after, guard⟩ := o
    simp only at hcp hdst
    have this := cOp_call hcp
    obtain ⟨fo', args', ats, rfl, hfo, hargs⟩ := this
    obtain ⟨⟨fn, hfn, hbody, hname⟩, hcalls⟩ := htri
    have r1 := opd_rel ht hfo
    rw [hf] at r1
    obtain ⟨cs1, hcs1, hcaps⟩ := r1.fn_inv
    have r2 := opds_rel ht hargs
    have hcall := hcalls c w _ hh (r2.append hcaps)
    have hexec : (execOp a.eval ⟨odst, .call { callee := .value fo', args := args', argTypes := ats }, ty, pos, after, guard⟩).run E.P w = .ok (.enter f (args'.map a.eval ++ cs1)) w := by
      have hb2 : fn.body.isNone = false := by simpa using hbody
      have hn1 : ¬ fn.name = "runtime.NumGoroutine" := by simpa using hname
      have hn2 : ¬ fn.body = none := by intro h; simp [h] at hbody
      simp [execOp, resolve, Sem.run_bind, hcs1, Deferred.ofValue, invoke, callFunc, hfn, hn1, hn2]
    have hgop := stepG_op (P := E.P) (b := b) (k := items) (cs := cs) (w := w) (rest := todo) ho hw
    obtain ⟨e, w2', fr, hR, hcomes, hfrf, hleave⟩ := hcall (b.at a (.inRegion ops (i :: todo) :: items) :: cs)
    obtain ⟨v, H', c', cv, hQ, rfl, hv, hh', hadv'⟩ := hR
    have henter : Go.step E.P (lone (b.at a (.inRegion ops (i :: todo) :: items)) cs w) = .next (lone (Frame.enter E.P f (args'.map a.eval ++ cs1) .normal) (b.at a (.inRegion ops (i :: todo) :: items) :: cs) w) :=
      step_lone_go (by rw [hgop]; simp [stepG.apply, hexec, Frame.at])
    have hfin := region_finish (b := b) (a := a) (rest := todo) (k := items) ho cv
    refine Goes.steps (a' := a.put odst cv) (k' := .inRegion ops todo :: items) (w' := w2') (.head henter (hcomes.trans (.one ?_))) ?_
    · rw [← hfin]; exact step_leave_returned hleave
    · refine hk v H' hQ c0 w0 h0 c' w2' _ (hadv.trans h0 hadv') hh' (by rw [hdst]; exact (ht.mono hadv'.m hadv'.ro).put d hdN hv) ?_ b _ cs hb hbk (.cons (.ops hl') hk')
      cases odst <;> exact hd

theorem Run.inLoop {E : Env} {body k t h} (hr : Run E ⟨.code body :: .inLoop body :: k, t, h⟩) : Run E ⟨.inLoop body :: k, t, h⟩ := by
  intro c0 w0 h0 c w a hadv hh ht hd b items cs hb hbk hk
  cases hk with | cons hx hk => cases hx with | inLoop hc =>
  exact Goes.step step_inLoop (hr c0 w0 h0 c w a hadv hh ht hd b _ cs hb hbk (.cons (.code hc) (.cons (.inLoop hc) hk)))

theorem Run.loop {E : Env} {body k} (I : Nat → T → List O → Prop) (round : ∀ n t h, I n t h → (∀ n' t' h', n' < n → I n' t' h' → Run E ⟨.inLoop body :: k, t', h'⟩) → Run E ⟨.code body :: .inLoop body :: k, t, h⟩)
    {n t h} (hI : I n t h) : Run E ⟨.code (.loop body) :: k, t, h⟩ := by
  have key : ∀ n t h, I n t h → Run E ⟨.inLoop body :: k, t, h⟩ := by
    intro n
    induction n using Nat.strongRecOn with
    | _ n ih => intro t h hI; exact Run.inLoop (round n t h hI fun n' t' h' hn hi => ih n' hn t' h' hi)
  intro c0 w0 h0 c w a hadv hh ht hd b items cs hb hbk hk
  cases hk with | cons hx hk => cases hx with | code hc =>
  obtain ⟨x, rfl, hx⟩ := cCode_loop hc
  have := round n t h hI (fun n' t' h' _ hi => key n' t' h' hi)
  exact Goes.step step_loop (this c0 w0 h0 c w a hadv hh ht hd b _ cs hb hbk (.cons (.code hx) (.cons (.inLoop hx) hk)))

/-! ### other names -/

structure Names (n0 : Nat) (ρ : Nat → Option Nat) (h h' : List O) : Prop where
  len : n0 ≤ h'.length
  keep : ∀ i, i < n0 → ρ i = some i
  dom : ∀ i j, ρ i = some j → i < h'.length
  obj : ∀ i o, h'[i]? = some o → o.live → ∃ j, ρ i = some j ∧ h[j]? = some (o.ren ρ)
  inj : ∀ i i' j, ρ i = some j → ρ i' = some j → i = i'

def Ctx.via (c : Ctx) (ρ : Nat → Option Nat) : Ctx := ⟨fun i => (ρ i).bind c.m, c.ro⟩

theorem via_some {c : Ctx} {ρ : Nat → Option Nat} {i : Nat} {p : Place} (h : (c.via ρ).m i = some p) : ∃ j, ρ i = some j ∧ c.m j = some p := by
  simp only [Ctx.via] at h
  cases hr : ρ i with
  | none => simp [hr] at h
  | some j => simp [hr] at h; exact ⟨j, rfl, h⟩

theorem via_of {c : Ctx} {ρ : Nat → Option Nat} (i j : Nat) (p : Place) (h : ρ i = some j) (k : c.m j = some p) : (c.via ρ).m i = some p := by simp [Ctx.via, h, k]

theorem reindex {c0 w0 H0 c w h h' ρ} (h0 : HRel c0 w0 H0) (hadv : Adv c0 w0 H0 c w h) (hh : HRel c w h) (hn : Names H0.length ρ h h') : HRel (c.via ρ) w h' ∧ Adv c0 w0 H0 (c.via ρ) w h' := by
  have hlive : ∀ i, Live h' i → ∃ j, ρ i = some j ∧ Live h j := by
    rintro i ⟨o, ho, hl⟩
    obtain ⟨j, hj, hg⟩ := hn.obj i o ho hl
    exact ⟨j, hj, _, hg, O.ren_live.2 hl⟩
  refine ⟨⟨hh.ro, ?_, ?_, ?_⟩, ⟨?_, hadv.ro, hn.len, ?_, hadv.size, hadv.frame, ?_, hadv.freshro, hadv.os, hadv.output, hadv.tape⟩⟩
  · intro i p hi
    obtain ⟨j, hj, _⟩ := via_some hi
    exact hn.dom i j hj
  · intro i o ho hl
    obtain ⟨j, hj, hg⟩ := hn.obj i o ho hl
    obtain ⟨p, hp, hr, hro⟩ := hh.obj j _ hg (O.ren_live.2 hl)
    exact ⟨p, via_of i j p hj hp, hr.of_ren ρ via_of, hro⟩
  · intro i i' p q hi hi' hp hq hpn hqn he
    obtain ⟨j, hj, hl⟩ := hlive i hi
    obtain ⟨j', hj', hl'⟩ := hlive i' hi'
    obtain ⟨k, hk, hp'⟩ := via_some hp
    obtain ⟨k', hk', hq'⟩ := via_some hq
    rw [hj] at hk; cases hk
    rw [hj'] at hk'; cases hk'
    have := hh.inj j j' p q hl hl' hp' hq' hpn hqn he
    subst this
    exact hn.inj i i' j hj hj'
  · intro i p hi
    have hlt := h0.dom i p hi
    exact via_of i i p (hn.keep i hlt) (hadv.m i p hi)
  · intro i hi hl
    obtain ⟨j, hj, hl'⟩ := hlive i hl
    rw [hn.keep i hi] at hj
    cases hj
    exact hadv.live i hi hl'
  · intro i p hi hpn
    obtain ⟨j, hj, hp⟩ := via_some hi
    rcases hadv.fresh j p hp hpn with h1 | h1
    · have hlt := h0.dom j p h1
      have := hn.inj i j j hj (hn.keep j hlt)
      subst this
      exact .inl h1
    · exact .inr h1

theorem Run.weaken {E : Env} {k t h} (ρ : Nat → Option Nat) (t' : T) (h' : List O) (hn : Names E.H0.length ρ h h') (ht : ∀ i, t' i = .any ∨ t i = (t' i).ren ρ) (hr : Run E ⟨k, t', h'⟩) : Run E ⟨k, t, h⟩ := by
  intro c0 w0 h0 c w a hadv hh htr hd b items cs hb hbk hk
  simp only at hadv hh htr hk
  obtain ⟨g1, g2⟩ := reindex h0 hadv hh hn
  refine hr c0 w0 h0 (c.via ρ) w a g2 g1 ⟨htr.size, fun i => ?_⟩ hd b items cs hb hbk hk
  show VRel (c.via ρ).ro (c.via ρ).m (t' i) _
  rcases ht i with h1 | h1
  · rw [h1]; exact .any ..
  · have := htr.rel i
    exact this.of_ren ρ h1 via_of

/-! ### returning -/

inductive ARes where
  | tmp (i : Nat)
  | cell (i : Nat) (k : Option Nat)

def cRes (P : Program) (N : Nat) : ResultVar → Option ARes
  | .tmp i => if i < N then some (.tmp i) else none
  | .cell i t => match cSize P t with
    | some (n, b) => if i < N then some (.cell i (if b then some n else none)) else none
    | none => none

def ARes.ev (t : T) (h : List O) : ARes → Option V
  | .tmp i => some (t i)
  | .cell i k => match opStep t h (.load (.t i) k) with
    | some (v, _) => some v
    | none => none

def evs (t : T) (h : List O) : List ARes → Option (List V)
  | [] => some []
  | r :: rs => match r.ev t h, evs t h rs with
    | some v, some vs => some (v :: vs)
    | _, _ => none

def mkRes : List V → V
  | [v] => v
  | vs => .tup vs

theorem res_one {P N c t a w h} (hh : HRel c w h) (ht : TRel N c t a) {r : ResultVar} {ar : ARes} (hr : cRes P N r = some ar) {v : V} (hv : ar.ev t h = some v) :
    ∃ cv, (match r with | .tmp t => pure (a.tmps.getD t undef) | .cell x t => (do loadVar t (← asAddr (a.tmps.getD x undef))) : Sem Value).run P w = .ok cv w ∧ VRel c.ro c.m v cv := by
  cases r with
  | tmp i =>
    simp only [cRes] at hr
    split at hr <;> cases hr
    simp only [ARes.ev] at hv
    cases hv
    exact ⟨_, rfl, ht.rel i⟩
  | cell i ty =>
    simp only [cRes] at hr
    split at hr
    case h_2 => cases hr
    case h_1 n b hk =>
      split at hr <;> cases hr
      rename_i hi
      simp only [ARes.ev] at hv
      split at hv <;> cases hv
      rename_i h2 hs
      have hx : cOpd N (.tmp i) = some (.t i) := by simp [cOpd, hi]
      obtain ⟨_, cv, h1, h3⟩ := sound_load0 (P := P) hh ht hx hk hs
      refine ⟨cv, ?_, h3⟩
      rw [← h1]
      simp only [Act.eval]
      have : ∃ ad, a.tmps.getD i undef = .pointer (some ad) := by
        have hrel := ht.rel i
        simp only [opStep, Opd.ev] at hs
        generalize t i = tv at *
        split at hs
        · obtain ⟨p, _, _, h⟩ := hrel.ptr_inv; exact ⟨_, h⟩
        · obtain ⟨p, _, _, h⟩ := hrel.eptr_inv; exact ⟨_, h⟩
        · obtain ⟨_, _, _, _, _, _, _, h⟩ := hrel.rptr_inv; exact ⟨_, h⟩
        · cases hs
      obtain ⟨ad, had⟩ := this
      simp only [had, asAddr, Instr.loadAt, Instr.sureAddr]

theorem res_all {P N c t a w h} (hh : HRel c w h) (ht : TRel N c t a) : ∀ (rs : List ResultVar) (ars : List ARes) (vs : List V), rs.mapM (cRes P N) = some ars → evs t h ars = some vs →
    ∃ cvs : List Value, (rs.mapM fun r => (match r with | .tmp t => pure (a.tmps.getD t undef) | .cell x t => (do loadVar t (← asAddr (a.tmps.getD x undef))) : Sem Value)).run P w = .ok cvs w ∧ vs.length = cvs.length ∧ ∀ i (h : i < vs.length) (h' : i < cvs.length), VRel c.ro c.m vs[i] cvs[i]
  | [], ars, vs, hm, he => by
    simp at hm; subst hm
    simp [evs] at he; subst he
    exact ⟨[], rfl, rfl, fun i h => by simp at h⟩
  | r :: rs, ars, vs, hm, he => by
    simp only [List.mapM_cons] at hm
    cases h1 : cRes P N r with
    | none => simp [h1] at hm
    | some ar =>
      cases h2 : rs.mapM (cRes P N) with
      | none => simp [h1, h2] at hm
      | some ars' =>
        simp [h1, h2] at hm; subst hm
        simp only [evs] at he
        split at he <;> cases he
        rename_i v vs' hv hvs
        obtain ⟨cv, g1, g2⟩ := res_one hh ht h1 hv
        obtain ⟨cvs, k1, k2, k3⟩ := res_all hh ht rs ars' vs' h2 hvs
        refine ⟨cv :: cvs, ?_, by simp [k2], fun i a b => ?_⟩
        · simp only [List.mapM_cons, Sem.run_bind, g1, Result.andThen_ok, k1, Sem.run_pure]
        · cases i with
          | zero => exact g2
          | succ i => simpa using k3 i (by simpa using a) (by simpa using b)

theorem results_run {P N c t a w h} (hh : HRel c w h) (ht : TRel N c t a) {fn : Func} {ars vs} (hr : fn.results.toList.mapM (cRes P N) = some ars) (hv : evs t h ars = some vs) :
    ∃ cv, (results fn a.tmps).run P w = .ok cv w ∧ VRel c.ro c.m (mkRes vs) cv := by
  obtain ⟨cvs, h1, h2, h3⟩ := res_all hh ht _ _ _ hr hv
  have hrun : (results fn a.tmps).run P w = .ok (if h : cvs.toArray.size = 1 then cvs.toArray[0] else .tuple cvs.toArray) w := by
    unfold results
    rw [Array.mapM_eq_mapM_toList]
    simp only [Sem.run_bind]
    have : ∀ (s : Sem (List Value)), s.run P w = .ok cvs w → (List.toArray <$> s).run P w = .ok cvs.toArray w := by
      intro s hs
      show (s.bind fun x => Sem.pure x.toArray).run P w = _
      have := Sem.run_bind (P := P) (w := w) s (fun x => Sem.pure x.toArray)
      rw [show s.bind (fun x => Sem.pure x.toArray) = (s >>= fun x => Sem.pure x.toArray) from rfl, this, hs]
      rfl
    exact (congrArg (fun (r : Result (Array Value)) => r.andThen fun a w' => Sem.run P (pure (if h : a.size = 1 then a[0] else Value.tuple a)) w') (this _ h1)).trans rfl
  refine ⟨_, hrun, ?_⟩
  match vs, cvs, h2, h3 with
  | [v], [cv], _, h3 => simp only [mkRes]; exact h3 0 (by simp) (by simp)
  | [], [], _, h3 => exact .tup _ _ _ rfl fun i h => by simp at h
  | a :: b :: r, x :: y :: s, h2, h3 =>
    have : ¬ (x :: y :: s).toArray.size = 1 := by simp
    rw [dif_neg this]
    exact .tup _ _ _ (by simpa using h2) fun i p q => by simpa using h3 i p (by simpa using q)

def AtEnd : List AItem → Prop
  | [] => True
  | .code .ret :: _ => True
  | _ => False

theorem Run.ret {E : Env} {fn : Func} (hf : E.P.funcs[E.f]? = some fn) {ars} (hr : fn.results.toList.mapM (cRes E.P E.N) = some ars) {k t h} (hk : AtEnd k) {vs} (hv : evs t h ars = some vs)
    (ρ : Nat → Option Nat) {v' : V} {h' : List O} (hn : Names E.H0.length ρ h h') (hv' : mkRes vs = v'.ren ρ) (hp : E.Post v' h') : Run E ⟨k, t, h⟩ := by
  intro c0 w0 h0 c w a hadv hh ht hd b items cs hb hbk hkk
  simp only at hadv hh ht hkk
  obtain ⟨cv, g1, g2⟩ := results_run (P := E.P) hh ht hr hv
  obtain ⟨r1, r2⟩ := reindex h0 hadv hh hn
  have hR : TriR E.H0 c0 w0 E.Post (.returned cv) w := ⟨v', h', c.via ρ, cv, hp, rfl, g2.of_ren ρ hv' via_of, r1, r2⟩
  have hleave : ∀ items, Frame.leaving E.P { b.at a items with mode := .returning } w (.returned cv) := by
    intro items
    refine ⟨rfl, hd, hbk, fn, ?_, g1⟩
    show E.P.funcs[b.fn]? = some fn
    rw [hb]; exact hf
  cases hkk with
  | nil => exact ⟨_, w, _, hR, Steps.one step_end, rfl, hleave _⟩
  | cons hx hk' =>
    cases hx with
    | code hc =>
      rename_i ac
      cases ac <;> simp only [AtEnd] at hk
      cases cCode_ret hc
      exact ⟨_, w, _, hR, Steps.one step_ret, rfl, hleave _⟩
    | ops => simp only [AtEnd] at hk
    | endB => simp only [AtEnd] at hk
    | inLoop => simp only [AtEnd] at hk

/-- the variables at a function's begin -/
def args0 (args : List V) : T := fun i => args.getD i .any

theorem Tri.of_run {P : Program} {f : FuncId} {fn : Func} {body : Code} {ac : AC} {args : List V} {H : List O} {Post} (hf : P.funcs[f]? = some fn) (hb : fn.body = some body) (hname : (fn.name == "runtime.NumGoroutine") = false)
    (hc : cCode P fn.ntmps body = some ac) (hl : args.length ≤ fn.ntmps) (hr : Run ⟨P, f, fn.ntmps, H, Post⟩ ⟨[.code ac], args0 args, H⟩) : Tri P f args H Post := by
  refine ⟨⟨fn, hf, by simp [hb], hname⟩, fun c w cargs hh hv => ?_⟩
  intro cs
  let b : Frame := { (default : Frame) with fn := f, kind := .normal }
  have henter : Frame.enter P f cargs .normal = b.at { tmps := cargs ++ Array.replicate (fn.ntmps - cargs.size) undef, defers := [] } [.code body] := by
    simp [Frame.enter, Frame.at, hf, hb, b]
  rw [henter]
  obtain ⟨e, w', fr, h1, h2, h3, h4⟩ := hr c w hh c w { tmps := cargs ++ Array.replicate (fn.ntmps - cargs.size) undef, defers := [] } (Adv.refl ..) hh (by
    refine ⟨by simp; have := hv.1; omega, fun i => ?_⟩
    simp only [args0]
    rcases Nat.lt_or_ge i args.length with hi | hi
    · have hi' : i < cargs.size := by rw [← hv.1]; exact hi
      have := hv.2 i hi hi'
      simp [List.getD_eq_getElem?_getD, List.getElem?_eq_getElem hi, Array.getElem?_append_left hi', hi']
      exact this
    · simp [List.getD_eq_getElem?_getD, List.getElem?_eq_none hi]
      exact .any ..) rfl b [.code body] cs rfl rfl (.cons (.code hc) .nil)
  exact ⟨e, w', fr, h1, h2, h3, h4⟩

theorem Tri.of_run' {P : Program} {f : FuncId} {fn : Func} {ac : AC} {args : List V} {H : List O} {Post} (hf : P.funcs[f]? = some fn) (hname : (fn.name == "runtime.NumGoroutine") = false)
    (hc : fn.body.bind (cCode P fn.ntmps) = some ac) (hl : args.length ≤ fn.ntmps) (hr : Run ⟨P, f, fn.ntmps, H, Post⟩ ⟨[.code ac], args0 args, H⟩) : Tri P f args H Post := by
  cases hb : fn.body with
  | none => simp [hb] at hc
  | some body => simp [hb] at hc; exact Tri.of_run hf hb hname hc hl hr

end Sx
