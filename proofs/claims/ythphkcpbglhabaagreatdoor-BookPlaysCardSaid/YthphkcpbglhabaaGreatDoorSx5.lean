/-
  Sx: symbolic execution over abstract heaps: parts O, P, Q, R, S, T, U.
-/
import Derived.Test.YthphkcpbglhabaaGreatDoorSx4
import Derived.AtR
import Derived.Eval

/-
  Sx, part O: running; steps, calls, loops.
-/
namespace Sx
open Go
set_option linter.unusedSimpArgs false
set_option linter.unusedVariables false

/-- from here on it comes to an end that does -/
def Goes (P : Program) (b : Frame) (F : Ending → World → Frame → Prop) (k : List Item) (cs : List Frame) (a : Act) (w : World) : Prop :=
  ∃ e w' fr, F e w' fr ∧ Comes P (lone (b.atR a k) cs w) (lone fr cs w') e

theorem Goes.step {P b F k k' cs a a' w w'} (hs : step P (lone (b.atR a k) cs w) = .next (lone (b.atR a' k') cs w')) (h : Goes P b F k' cs a' w') : Goes P b F k cs a w := by
  obtain ⟨e, w2, fr, h1, h2⟩ := h
  exact ⟨e, w2, fr, h1, Comes.of_steps (.one hs) h2⟩

theorem Goes.steps {P b F k k' cs a a' w w'} (hs : Steps P (lone (b.atR a k) cs w) (lone (b.atR a' k') cs w')) (h : Goes P b F k' cs a' w') : Goes P b F k cs a w := by
  obtain ⟨e, w2, fr, h1, h2⟩ := h
  exact ⟨e, w2, fr, h1, Comes.of_steps hs h2⟩

/-- where it runs: in a function; in one that holds marks; in a round of a loop -/
inductive Where where
  | fn (f : FuncId)
  | fnD (f : FuncId) (ds : List Deferred)
  | round (f : FuncId) (id : Nat)
instance (n : Nat) : OfNat Where n := ⟨.fn n⟩
def Where.f : Where → FuncId
  | .fn f => f
  | .fnD f _ => f
  | .round f _ => f
def Where.ds : Where → List Deferred
  | .fnD _ ds => ds
  | _ => []
def Where.isFn : Where → Prop
  | .round _ _ => False
  | _ => True
def Where.ok (c : Ctx) (b : Frame) : Where → Prop
  | .round _ id => b.kind = .normal ∧ ∃ p, c.m id = some p ∧ b.roundOf = some p.block
  | _ => b.kind = .normal ∧ b.roundOf = none

/-- what a call comes to -/
def TriR (H0 : List O) (c0 : Ctx) (w0 : World) (Post : V → List O → Prop) (e : Ending) (w' : World) : Prop :=
  ∃ v H' c' cv, Post v H' ∧ e = .returned cv ∧ VRel c'.ro c'.m v cv ∧ HRel c' w' H' ∧ Adv c0 w0 H0 c' w' H'

def Callable (P : Program) (f : FuncId) : Prop := ∃ fn, P.funcs[f]? = some fn ∧ fn.body.isSome = true ∧ (fn.name == "runtime.NumGoroutine") = false

/-- THE CONTRACT -/
def Tri (P : Program) (f : FuncId) (args : List V) (H : List O) (Post : V → List O → Prop) : Prop :=
  Callable P f ∧ ∀ c w cargs, HRel c w H → VRels c.ro c.m args cargs → Calls P f cargs w (TriR H c w Post)

theorem Tri.mono {P f args H Post Post'} (h : Tri P f args H Post) (hp : ∀ v H', Post v H' → Post' v H') : Tri P f args H Post' :=
  ⟨h.1, fun c w cargs hh hv => (h.2 c w cargs hh hv).mono fun e w' ⟨v, H', c', cv, h1, h2⟩ => ⟨v, H', c', cv, hp _ _ h1, h2⟩⟩

/-- the world when the results are read, and how they are told: it may be another one by then, in what is not told of -/
def FnR (P : Program) (f : FuncId) (ds : List Deferred) (H0 : List O) (c0 : Ctx) (w0 : World) (Post : V → List O → Prop) (e : Ending) (w' : World) (fr : Frame) : Prop :=
  ∃ c h fn, (∃ cv, e = .returned cv) ∧ fr.mode = .returning ∧ fr.defers = ds ∧ fr.kind = .normal ∧ fr.fn = f ∧ P.funcs[f]? = some fn ∧ HRel c w' h ∧ Adv c0 w0 H0 c w' h ∧
    ∀ w2, HRel c w2 h → ∃ cv v H' c', (results fn fr.tmps).run P w2 = .ok cv w2 ∧ Post v H' ∧ VRel c'.ro c'.m v cv ∧ HRel c' w2 H' ∧
      ∀ c1 w1 H1, HRel c1 w1 H1 → H1.length ≤ H0.length → Adv c1 w1 H1 c w2 h → Adv c1 w1 H1 c' w2 H'

structure Env where
  P : Program
  f : Where
  N : Nat
  H0 : List O
  Post : V → List O → Prop

inductive IRel (P : Program) (N : Nat) : AItem → Item → Prop
  | code {c ac} (h : cCode P N c = some ac) : IRel P N (.code ac) (.code c)
  | ops {l ops todo} (h : todo.map (fun i => (ops[i]?).bind (cOper P N ops)) = l.map some) : IRel P N (.ops l) (.inRegion ops todo)
  | endB {id} : IRel P N (.endB id) (.inBlock id)
  | inLoop {c ac} (h : cCode P N c = some ac) : IRel P N (.inLoop ac) (.inLoop c)
  | beginR : IRel P N .beginR .beginRound

inductive KRel (P : Program) (N : Nat) : List AItem → List Item → Prop
  | nil : KRel P N [] []
  | cons {x y k l} (h : IRel P N x y) (t : KRel P N k l) : KRel P N (x :: k) (y :: l)

/-- the end -/
def Env.F (E : Env) (c0 : Ctx) (w0 : World) : Ending → World → Frame → Prop :=
  match E.f with
  | .fn f => FnR E.P f [] E.H0 c0 w0 E.Post
  | .fnD f ds => FnR E.P f ds E.H0 c0 w0 E.Post
  | .round _ _ => fun e w' fr => ∃ w2 v, e = .returned v ∧ TriR E.H0 c0 w0 E.Post e w2 ∧ ∀ c cs, step E.P (lone fr (c :: cs) w') = .next (lone (c.finish v) cs w2)

def Run (E : Env) (cfg : Cfg) : Prop :=
  ∀ c0 w0, HRel c0 w0 E.H0 → ∀ c w a, Adv c0 w0 E.H0 c w cfg.h → HRel c w cfg.h → TRel E.N c cfg.t a → a.defers = E.f.ds →
    ∀ (b : Frame) items cs, b.fn = E.f.f → E.f.ok c0 b → KRel E.P E.N cfg.k items → Goes E.P b (E.F c0 w0) items cs a w

theorem unwind_rel {P N id} : ∀ {k : List AItem} {items : List Item} {k1 : List AItem}, unwind id k = some k1 → KRel P N k items → ∃ items1, exitTo id items = some items1 ∧ KRel P N k1 items1
  | [], items, k1, h, _ => by simp [unwind] at h
  | x :: k, y :: items, k1, h, .cons hx hk => by
    cases hx with
    | code hc => simp only [unwind] at h; simp only [exitTo]; exact unwind_rel h hk
    | ops hc => simp only [unwind] at h; simp only [exitTo]; exact unwind_rel h hk
    | inLoop hc => simp only [unwind] at h; simp only [exitTo]; exact unwind_rel h hk
    | beginR => simp only [unwind] at h; simp only [exitTo]; exact unwind_rel h hk
    | @endB j =>
      simp only [unwind] at h
      by_cases e : j = id
      · simp only [e, if_true] at h
        cases h
        exact ⟨items, by simp [exitTo, e], hk⟩
      · simp only [if_neg e] at h
        obtain ⟨i1, h1, h2⟩ := unwind_rel h hk
        exact ⟨i1, by simp [exitTo, e, h1], h2⟩

def GuardOk (N : Nat) (ops : Array Oper) (o : Oper) : Option (Nat × Bool) → Prop
  | none => o.guard = none
  | some (j, want) => j < N ∧ ∃ i, o.guard = some (i, want) ∧ (ops[i]?).bind (·.dst) = some j

theorem cOper_spec {P N ops o d g ao} (h : cOper P N ops o = some ⟨d, g, ao⟩) : cOp P N o.op = some ao ∧ o.dst = d ∧ (∀ x, d = some x → x < N) ∧ GuardOk N ops o g := by
  unfold cOper at h
  simp only [Option.bind_eq_bind, Option.pure_def] at h
  cases hg : o.guard with
  | none =>
    cases hd : o.dst with
    | none =>
      cases ho : cOp P N o.op with
      | none => simp [hg, hd, ho] at h
      | some a => simp [hg, hd, ho] at h; obtain ⟨rfl, rfl, rfl⟩ := h; exact ⟨rfl, rfl, (fun x h => by cases h), hg⟩
    | some x =>
      by_cases hx : x < N
      · cases ho : cOp P N o.op with
        | none => simp [hg, hd, ho, hx] at h
        | some a => simp [hg, hd, ho, hx] at h; obtain ⟨rfl, rfl, rfl⟩ := h; exact ⟨rfl, rfl, (fun y h => by cases h; exact hx), hg⟩
      · simp [hg, hd, hx] at h
  | some jb =>
    obtain ⟨i, want⟩ := jb
    cases hj : (ops[i]?).bind (·.dst) with
    | none => simp [hg, hj] at h
    | some j =>
      by_cases hjN : j < N
      · cases hd : o.dst with
        | none =>
          cases ho : cOp P N o.op with
          | none => simp [hg, hd, ho, hj, hjN] at h
          | some a => simp [hg, hd, ho, hj, hjN] at h; obtain ⟨rfl, rfl, rfl⟩ := h; exact ⟨rfl, rfl, (fun x h => by cases h), hjN, i, hg, hj⟩
        | some x =>
          by_cases hx : x < N
          · cases ho : cOp P N o.op with
            | none => simp [hg, hd, ho, hx, hj, hjN] at h
            | some a => simp [hg, hd, ho, hx, hj, hjN] at h; obtain ⟨rfl, rfl, rfl⟩ := h; exact ⟨rfl, rfl, (fun y h => by cases h; exact hx), hjN, i, hg, hj⟩
          · simp [hg, hd, hx, hj, hjN] at h
      · simp [hg, hj, hjN] at h

theorem wanted_of {N c t a ops} {o : Oper} (ht : TRel N c t a) {g : Option (Nat × Bool)} (hg : GuardOk N ops o g) :
    (g = none → Region.wanted o (yielded ops a.tmps) = true) ∧ (∀ j want v, g = some (j, want) → t j = .bool v → Region.wanted o (yielded ops a.tmps) = decide (v = want)) ∧
    (∀ j want, g = some (j, want) → t j = .tup [] → Region.wanted o (yielded ops a.tmps) = false) := by
  refine ⟨fun h => ?_, fun j want v h hv => ?_, fun j want h hv => ?_⟩
  · subst h; simp only [GuardOk] at hg; simp [Region.wanted, hg]
  · subst h
    obtain ⟨hj, i, h1, h2⟩ := hg
    have := ht.rel j
    rw [hv] at this
    have hb := this.bool_inv
    have hlt : j < a.tmps.size := by rw [ht.size]; exact hj
    have hb' : a.tmps[j]? = some (.bool v) := by
      rw [Array.getD_eq_getD_getElem?, Array.getElem?_eq_getElem hlt] at hb
      rw [Array.getElem?_eq_getElem hlt]; simpa using hb
    simp only [Region.wanted, h1, yielded, h2, Option.bind_some, hb']
    by_cases e : v = want
    · subst e; simp
    · simp [e]
  · subst h
    obtain ⟨hj, i, h1, h2⟩ := hg
    have := ht.rel j
    rw [hv] at this
    have hlt : j < a.tmps.size := by rw [ht.size]; exact hj
    rw [Array.getD_eq_getD_getElem?, Array.getElem?_eq_getElem hlt, Option.getD_some] at this
    have hb' : ∃ cs, a.tmps[j]? = some (.tuple cs) := by
      rw [Array.getElem?_eq_getElem hlt]
      generalize a.tmps[j] = x at this
      cases this
      exact ⟨_, rfl⟩
    obtain ⟨cs, hb'⟩ := hb'
    simp [Region.wanted, h1, yielded, h2, hb']

theorem region_finish {b : Frame} {a : Act} {ops : Array Oper} {i : Nat} {rest : List Nat} {k : List Item} {o : Oper} (ho : ops[i]? = some o) (v : Value) :
    (b.atR a (.inRegion ops (i :: rest) :: k)).finish v = b.atR (a.put o.dst v) (.inRegion ops rest :: k) := by
  rw [Frame.finish_atR, ho]; rfl

theorem ops_cons {P N ops} {i : Nat} {todo : List Nat} {x : AOper} {l : List AOper} (h : (i :: todo).map (fun i => (ops[i]?).bind (cOper P N ops)) = (x :: l).map some) :
    (∃ o, ops[i]? = some o ∧ cOper P N ops o = some x) ∧ todo.map (fun i => (ops[i]?).bind (cOper P N ops)) = l.map some := by
  simp only [List.map_cons, List.cons.injEq] at h
  refine ⟨?_, h.2⟩
  cases ho : ops[i]? with
  | none => simp [ho] at h
  | some o => exact ⟨o, rfl, by simpa [ho] using h.1⟩

theorem cOp_nodefer {P N op ao} (h : cOp P N op = some ao) : ∀ c, op ≠ .defer c := by
  rintro c rfl; simp [cOp] at h
theorem stepGR {P : Program} {N : Nat} {b : Frame} {a : Act} {k : List Item} {cs : List Frame} {w : World} {ops : Array Oper} {i : Nat} {rest : List Nat} {o : Oper} {ao} (ho : ops[i]? = some o) (hw : Region.wanted o (yielded ops a.tmps) = true) (hc : cOp P N o.op = some ao) :
    stepG P true { frame := b.atR a (.inRegion ops (i :: rest) :: k), callers := cs, status := .running, dying := none } w = stepG.apply P true (b.atR a (.inRegion ops (i :: rest) :: k)) cs none (execOp a.eval o) w := by
  rw [stepGR_op ho hw, Oper.semAt_eq _ _ _ (cOp_nodefer hc)]

theorem op_goes {E : Env} {c0 w0} (h0 : HRel c0 w0 E.H0) {c w a t h} (hadv : Adv c0 w0 E.H0 c w h) (hh : HRel c w h) (ht : TRel E.N c t a) (hd : a.defers = E.f.ds) {b : Frame} {cs items ops i todo l k d g ao} (hb : b.fn = E.f.f) (hbk : E.f.ok c0 b)
    {o : Oper} (ho : ops[i]? = some o) (hco : cOper E.P E.N ops o = some ⟨d, g, ao⟩) (hk : KRel E.P E.N (.ops l :: k) (.inRegion ops todo :: items)) (hw : Region.wanted o (yielded ops a.tmps) = true) {v h'} (hs : opStep t h ao = some (v, h'))
    (hrun : Run E ⟨.ops l :: k, put t d v, h'⟩) : Goes E.P b (E.F c0 w0) (.inRegion ops (i :: todo) :: items) cs a w := by
  obtain ⟨hcp, hdst, hdN, hgd⟩ := cOper_spec hco
  obtain ⟨r, w', c', h1, h2, h3, h4⟩ := op_sound (P := E.P) hh ht hcp hs
  have hg := stepGR (P := E.P) (b := b) (k := items) (cs := cs) (w := w) (rest := todo) ho hw hcp
  have hfin := fun v => region_finish (b := b) (a := a) (rest := todo) (k := items) ho v
  have ht' := ht.mono h4.m h4.ro
  rcases h2 with ⟨cv, rfl, hv⟩ | ⟨rfl, rfl⟩
  · refine Goes.step (a' := a.put o.dst cv) (k' := .inRegion ops todo :: items) (w' := w') (step_lone_go ?_) ?_
    · rw [hg, ← hfin]; simp [stepG.apply, h1]
    · refine hrun c0 w0 h0 c' w' _ (hadv.trans h0 h4) h3 (by rw [hdst]; exact ht'.put d hdN hv) ?_ b _ cs hb hbk hk
      cases o.dst <;> exact hd
  · refine Goes.step (a' := a.put o.dst undef) (k' := .inRegion ops todo :: items) (w' := w') (step_lone_go ?_) ?_
    · rw [hg, ← hfin]; simp [stepG.apply, h1]
    · refine hrun c0 w0 h0 c' w' _ (hadv.trans h0 h4) h3 (by rw [hdst]; exact ht'.put d hdN (.any ..)) ?_ b _ cs hb hbk hk
      cases o.dst <;> exact hd

theorem range_map {α} (l : List α) : (List.range l.length).map (fun i => l[i]?) = l.map some := by
  refine List.ext_getElem (by simp) fun i h1 h2 => ?_
  simp at h2
  simp [h2]

theorem region_rel {P N} {ops : Array Oper} {l : List AOper} (h : ops.toList.mapM (cOper P N ops) = some l) : (List.range ops.size).map (fun i => (ops[i]?).bind (cOper P N ops)) = l.map some := by
  obtain ⟨h1, h2⟩ := mapM_some _ _ _ h
  refine List.ext_getElem (by simpa using h1) fun i a b => ?_
  have hi : i < ops.size := by simpa using a
  have := h2 i (by simpa using hi) (by simpa using b)
  simp [hi]
  simpa using this

section inv
variable {P : Program} {N : Nat} {c : Code}
theorem cCode_skip (h : cCode P N c = some .skip) : c = .skip := by
  cases c <;> try (simp only [cCode] at h; first | rfl | (cases h; done) | (repeat (first | (cases h; done) | split at h)) <;> cases h)
  rename_i id ops d; cases d <;> simp only [cCode] at h <;> split at h <;> cases h
theorem cCode_seq {a b} (h : cCode P N c = some (.seq a b)) : ∃ x y, c = .seq x y ∧ cCode P N x = some a ∧ cCode P N y = some b := by
  cases c
  case region id ops d => cases d <;> simp only [cCode] at h <;> split at h <;> cases h
  all_goals (simp only [cCode] at h; first | (cases h; done) | (repeat (first | (cases h; done) | split at h)) <;> cases h)
  exact ⟨_, _, rfl, by assumption, by assumption⟩
theorem cCode_region {l} (h : cCode P N c = some (.region l)) : ∃ id ops, c = .region id ops false ∧ ops.toList.mapM (cOper P N ops) = some l := by
  cases c
  case region id ops d =>
    cases d <;> simp only [cCode] at h <;> split at h <;> cases h
    exact ⟨_, _, rfl, by assumption⟩
  all_goals (simp only [cCode] at h; first | (cases h; done) | (repeat (first | (cases h; done) | split at h)) <;> cases h)
theorem cCode_drawn {l} (h : cCode P N c = some (.drawn l)) : ∃ id ops, c = .region id ops true ∧ ops.toList.zipIdx.mapM (cDraw1 P N ops) = some l := by
  cases c
  case region id ops d =>
    cases d <;> simp only [cCode] at h <;> split at h <;> cases h
    exact ⟨_, _, rfl, by assumption⟩
  all_goals (simp only [cCode] at h; first | (cases h; done) | (repeat (first | (cases h; done) | split at h)) <;> cases h)
theorem cCode_cond {o a b} (h : cCode P N c = some (.cond o a b)) : ∃ o' x y, c = .cond o' x y ∧ cOpd N o' = some o ∧ cCode P N x = some a ∧ cCode P N y = some b := by
  cases c
  case region id ops d => cases d <;> simp only [cCode] at h <;> split at h <;> cases h
  all_goals (simp only [cCode] at h; first | (cases h; done) | (repeat (first | (cases h; done) | split at h)) <;> cases h)
  exact ⟨_, _, _, rfl, by assumption, by assumption, by assumption⟩
theorem cCode_block {id a} (h : cCode P N c = some (.block id a)) : ∃ x, c = .block id x ∧ cCode P N x = some a := by
  cases c
  case region id ops d => cases d <;> simp only [cCode] at h <;> split at h <;> cases h
  all_goals (simp only [cCode] at h; first | (cases h; done) | (repeat (first | (cases h; done) | split at h)) <;> cases h)
  exact ⟨_, rfl, by assumption⟩
theorem cCode_loop {a} (h : cCode P N c = some (.loop a)) : ∃ x, c = .loop x ∧ cCode P N x = some a := by
  cases c
  case region id ops d => cases d <;> simp only [cCode] at h <;> split at h <;> cases h
  all_goals (simp only [cCode] at h; first | (cases h; done) | (repeat (first | (cases h; done) | split at h)) <;> cases h)
  exact ⟨_, rfl, by assumption⟩
theorem cCode_exit {id} (h : cCode P N c = some (.exit id)) : c = .exit id := by
  cases c
  case region id ops d => cases d <;> simp only [cCode] at h <;> split at h <;> cases h
  all_goals (simp only [cCode] at h; first | (cases h; rfl) | (cases h; done) | (repeat (first | (cases h; done) | split at h)) <;> cases h)
theorem cCode_ret (h : cCode P N c = some .ret) : c = .ret := by
  cases c
  case region id ops d => cases d <;> simp only [cCode] at h <;> split at h <;> cases h
  all_goals (simp only [cCode] at h; first | rfl | (cases h; done) | (repeat (first | (cases h; done) | split at h)) <;> cases h)
end inv

theorem opBr_run {E : Env} {c0 w0} (h0 : HRel c0 w0 E.H0) {c w a t h} (hadv : Adv c0 w0 E.H0 c w h) (hh : HRel c w h) (ht : TRel E.N c t a) (hd : a.defers = E.f.ds) {b : Frame} {cs items ops i todo l k d g ao} (hb : b.fn = E.f.f) (hbk : E.f.ok c0 b)
    {o : Oper} (ho : ops[i]? = some o) (hco : cOper E.P E.N ops o = some ⟨d, g, ao⟩) (hl : todo.map (fun i => (ops[i]?).bind (cOper E.P E.N ops)) = l.map some) (hk : KRel E.P E.N k items) (hw : Region.wanted o (yielded ops a.tmps) = true) {c'}
    (hs : opBr t h d ao l k = .one c') (hrun : Run E c') : Goes E.P b (E.F c0 w0) (.inRegion ops (i :: todo) :: items) cs a w := by
  unfold opBr at hs
  split at hs <;> cases hs
  rename_i v h' hop
  exact op_goes h0 hadv hh ht hd hb hbk ho hco (.cons (.ops hl) hk) hw hop hrun

/-- what a step leaves to show -/
def Br.ok (E : Env) (cfg : Cfg) : Br → Prop
  | .one c => Run E c
  | .ite p a b => (p = true → (match a with | .one c => Run E c | _ => Run E cfg)) ∧ (p = false → (match b with | .one c => Run E c | _ => Run E cfg))
  | .stop => Run E cfg

theorem Run.step {E : Env} {cfg : Cfg} (hr : (step1 cfg).ok E cfg) : Run E cfg := by
  intro c0 w0 h0 c w a hadv hh ht hd b items cs hb hbk hk
  obtain ⟨k, t, h⟩ := cfg
  simp only at hadv hh ht hk
  have hstop : Run E ⟨k, t, h⟩ → Goes E.P b (E.F c0 w0) items cs a w := fun hr => hr c0 w0 h0 c w a hadv hh ht hd b items cs hb hbk hk
  unfold step1 at hr
  split at hr
  · rename_i k' t' h' heq; cases heq
    cases hk with | cons hx hk => cases hx with | code hc =>
    cases cCode_skip hc
    exact Goes.step stepR_skip (hr c0 w0 h0 c w a hadv hh ht hd b _ cs hb hbk hk)
  · rename_i x y k' t' h' heq; cases heq
    cases hk with | cons hx hk => cases hx with | code hc =>
    obtain ⟨p, q, rfl, h1, h2⟩ := cCode_seq hc
    exact Goes.step stepR_seq (hr c0 w0 h0 c w a hadv hh ht hd b _ cs hb hbk (.cons (.code h1) (.cons (.code h2) hk)))
  · rename_i l k' t' h' heq; cases heq
    cases hk with | cons hx hk => cases hx with | code hc =>
    obtain ⟨id, ops, rfl, h1⟩ := cCode_region hc
    exact Goes.step stepR_region (hr c0 w0 h0 c w a hadv hh ht hd b _ cs hb hbk (.cons (.ops (region_rel h1)) hk))
  · rename_i id x k' t' h' heq; cases heq
    cases hk with | cons hx hk => cases hx with | code hc =>
    obtain ⟨p, rfl, h1⟩ := cCode_block hc
    exact Goes.step stepR_block (hr c0 w0 h0 c w a hadv hh ht hd b _ cs hb hbk (.cons (.code h1) (.cons .endB hk)))
  · rename_i id k' t' h' heq; cases heq
    split at hr
    · rename_i k1 hu
      cases hk with | cons hx hk => cases hx with | code hc =>
      cases cCode_exit hc
      obtain ⟨i1, h1, h2⟩ := unwind_rel hu hk
      exact Goes.step (stepR_exit h1) (hr c0 w0 h0 c w a hadv hh ht hd b _ cs hb hbk h2)
    · exact hstop hr
  · rename_i o x y k' t' h' heq; cases heq
    split at hr
    · rename_i v hv
      cases hk with | cons hx hk => cases hx with | code hc =>
      obtain ⟨o', p, q, rfl, h1, h2, h3⟩ := cCode_cond hc
      have r1 := opd_rel ht h1
      rw [hv] at r1
      cases v
      · exact Goes.step (stepR_cond r1.bool_inv) (hr.2 rfl c0 w0 h0 c w a hadv hh ht hd b _ cs hb hbk (.cons (.code (by simpa using h3)) hk))
      · exact Goes.step (stepR_cond r1.bool_inv) (hr.1 rfl c0 w0 h0 c w a hadv hh ht hd b _ cs hb hbk (.cons (.code (by simpa using h2)) hk))
    · exact hstop hr
  · rename_i id k' t' h' heq; cases heq
    cases hk with | cons hx hk => cases hx with | endB =>
    exact Goes.step stepR_inBlock (hr c0 w0 h0 c w a hadv hh ht hd b _ cs hb hbk hk)
  · rename_i k' t' h' heq; cases heq
    cases hk with | cons hx hk => cases hx with | @ops _ ops todo hl =>
    have : todo = [] := by cases todo with | nil => rfl | cons x xs => simp at hl
    subst this
    exact Goes.step stepR_region_end (hr c0 w0 h0 c w a hadv hh ht hd b _ cs hb hbk hk)
  · rename_i d ao l k' t' h' heq; cases heq
    cases hbr : opBr t h d ao l k' with
    | one c' =>
      rw [hbr] at hr
      cases hk with | cons hx hk => cases hx with | @ops _ ops todo hl =>
      cases todo with
      | nil => simp at hl
      | cons i todo =>
        obtain ⟨⟨o, ho, hco⟩, hl'⟩ := ops_cons hl
        obtain ⟨_, hdst, hdN, hgd⟩ := cOper_spec hco
        exact opBr_run h0 hadv hh ht hd hb hbk ho hco hl' hk ((wanted_of ht hgd).1 rfl) hbr hr
    | ite p x y => unfold opBr at hbr; split at hbr <;> cases hbr
    | stop => rw [hbr] at hr; exact hstop hr
  · rename_i d j want ao l k' t' h' heq; cases heq
    split at hr
    · rename_i v hv
      by_cases hvw : (v == want) = true
      · have hr1 := hr.1 hvw
        cases hbr : opBr t h d ao l k' with
        | one c' =>
          rw [hbr] at hr1
          cases hk with | cons hx hk => cases hx with | @ops _ ops todo hl =>
          cases todo with
          | nil => simp at hl
          | cons i todo =>
            obtain ⟨⟨o, ho, hco⟩, hl'⟩ := ops_cons hl
            obtain ⟨_, hdst, hdN, hgd⟩ := cOper_spec hco
            exact opBr_run h0 hadv hh ht hd hb hbk ho hco hl' hk (by rw [(wanted_of ht hgd).2.1 j want v rfl hv]; simpa using hvw) hbr hr1
        | ite p x y => unfold opBr at hbr; split at hbr <;> cases hbr
        | stop => rw [hbr] at hr1; exact hstop hr1
      · have hr1 := hr.2 (by simpa using hvw)
        cases hk with | cons hx hk => cases hx with | @ops _ ops todo hl =>
        cases todo with
        | nil => simp at hl
        | cons i todo =>
          obtain ⟨⟨o, ho, hco⟩, hl'⟩ := ops_cons hl
          obtain ⟨_, hdst, hdN, hgd⟩ := cOper_spec hco
          have hnw : Region.wanted o (yielded ops a.tmps) = false := by rw [(wanted_of ht hgd).2.1 j want v rfl hv]; simpa using hvw
          refine Goes.step (stepR_op_skip (by simp [ho, hnw])) (hr1 c0 w0 h0 c w _ hadv hh ?_ ?_ b _ cs hb hbk (.cons (.ops hl') hk))
          · simp only [ho, Option.bind_some, hdst]
            exact ht.put d hdN (.tup _ _ _ rfl fun i h => by simp at h)
          · simp only [ho, Option.bind_some]; cases o.dst <;> exact hd
    · rename_i hv
      cases hk with | cons hx hk => cases hx with | @ops _ ops todo hl =>
      cases todo with
      | nil => simp at hl
      | cons i todo =>
        obtain ⟨⟨o, ho, hco⟩, hl'⟩ := ops_cons hl
        obtain ⟨_, hdst, hdN, hgd⟩ := cOper_spec hco
        have hnw : Region.wanted o (yielded ops a.tmps) = false := (wanted_of ht hgd).2.2 j want rfl hv
        refine Goes.step (stepR_op_skip (by simp [ho, hnw])) (hr c0 w0 h0 c w _ hadv hh ?_ ?_ b _ cs hb hbk (.cons (.ops hl') hk))
        · simp only [ho, Option.bind_some, hdst]
          exact ht.put d hdN (.tup _ _ _ rfl fun i h => by simp at h)
        · simp only [ho, Option.bind_some]; cases o.dst <;> exact hd
    · exact hstop hr
  · exact hstop hr

theorem Run.exec {E : Env} (n : Nat) : ∀ {cfg : Cfg}, Run E (Sx.exec n cfg) → Run E cfg := by
  induction n with
  | zero => intro cfg h; exact h
  | succ n ih =>
    intro cfg h
    refine Run.step ?_
    simp only [Sx.exec] at h
    split at h
    · rename_i c' hs; rw [hs]; exact ih h
    · rename_i p x y hs
      rw [hs]
      refine ⟨fun hp => ?_, fun hp => ?_⟩
      · rw [if_pos hp] at h
        split at h
        · exact ih h
        · rename_i hne; cases x <;> first | exact h | (exact absurd rfl (hne _))
      · rw [if_neg (by simp [hp])] at h
        split at h
        · exact ih h
        · rename_i hne; cases y <;> first | exact h | (exact absurd rfl (hne _))
    · rename_i hs; rw [hs]; exact h

theorem Run.ite {E : Env} {p : Prop} [Decidable p] {a b : Cfg} (h1 : p → Run E a) (h2 : ¬ p → Run E b) : Run E (if p then a else b) := by
  split
  · exact h1 (by assumption)
  · exact h2 (by assumption)

end Sx

/-
  Sx, part P: calls, loops, other names, freezing, returning; contracts out of runs.
-/
namespace Sx
open Go
set_option linter.unusedSimpArgs false
set_option linter.unusedVariables false

/-- may the operation run? -/
def goes (t : T) : Option (Nat × Bool) → Prop
  | none => True
  | some (j, want) => t j = .bool want

theorem VRels.append {ro m} {a b : List V} {x y : Array Value} (h : VRels ro m a x) (k : VRels ro m b y) : VRels ro m (a ++ b) (x ++ y) := by
  refine ⟨by simp [h.1, k.1], fun i p q => ?_⟩
  rcases Nat.lt_or_ge i a.length with h1 | h1
  · rw [List.getElem_append_left h1, Array.getElem_append_left (by rw [← h.1]; exact h1)]; exact h.2 _ _ _
  · rw [List.getElem_append_right h1, Array.getElem_append_right (by rw [← h.1]; exact h1)]
    have e : i - x.size = i - a.length := by rw [h.1]
    simp only [e]
    exact k.2 _ _ _

theorem cOp_call {P : Program} {N : Nat} {op : Op} {fo : Opd} {args : List Opd} (hcp : cOp P N op = some (.call fo args)) :
    ∃ fo' args' ats, op = .call { callee := .value fo', args := args', argTypes := ats } ∧ cOpd N fo' = some fo ∧ cOpds N args' = some args := by
  cases op
  case makeMap mt mr => cases mr <;> simp [cOp] at hcp
  case call cl =>
    obtain ⟨callee, cargs, ats⟩ := cl
    cases callee with
    | value f' =>
      simp only [cOp] at hcp
      split at hcp
      · split at hcp <;> cases hcp
      · split at hcp <;> cases hcp
        exact ⟨_, _, _, rfl, by assumption, by assumption⟩
    | invoke r m => simp [cOp] at hcp
    | builtin bb =>
      simp only [cOp] at hcp
      split at hcp
      case h_2 => cases hcp
      case h_1 xs hxs =>
        unfold cBuiltin at hcp
        repeat' split at hcp
        all_goals simp at hcp
  case makeFunc fn first caps => cases fn <;> simp only [cOp] at hcp <;> (repeat' split at hcp) <;> simp at hcp
  all_goals (simp only [cOp] at hcp; try (repeat' split at hcp))
  all_goals (try simp at hcp)

theorem Run.call {E : Env} {d g fo args l k t h f caps Q} (hg : goes t g) (hf : fo.ev t = .fn f caps) (htri : Tri E.P f (args.map (Opd.ev t) ++ caps) h Q)
    (hk : ∀ v h', Q v h' → Run E ⟨.ops l :: k, put t d v, h'⟩) : Run E ⟨.ops (⟨d, g, .call fo args⟩ :: l) :: k, t, h⟩ := by
  intro c0 w0 h0 c w a hadv hh ht hd b items cs hb hbk hk'
  simp only at hadv hh ht hk'
  cases hk' with | cons hx hk' => cases hx with | @ops _ ops todo hl =>
  rename_i items
  cases todo with
  | nil => simp at hl
  | cons i todo =>
    obtain ⟨⟨o, ho, hco⟩, hl'⟩ := ops_cons hl
    obtain ⟨hcp, hdst, hdN, hgd⟩ := cOper_spec hco
    obtain ⟨w1, w2⟩ := wanted_of ht hgd
    have hw : Region.wanted o (yielded ops a.tmps) = true := by
      cases g with
      | none => exact w1 rfl
      | some jw => obtain ⟨j, want⟩ := jw; rw [w2.1 j want want rfl hg]; simp
    obtain ⟨odst, op, ty, pos, after, guard⟩ := o
    simp only at hcp hdst
    have this := cOp_call hcp
    obtain ⟨fo', args', ats, rfl, hfo, hargs⟩ := this
    obtain ⟨⟨fn, hfn, hbody, hname⟩, hcalls⟩ := htri
    have r1 := opd_rel ht hfo
    rw [hf] at r1
    obtain ⟨cs1, hcs1, hcaps⟩ := r1.fn_inv
    have r2 := opds_rel ht hargs
    have hcall := hcalls c w _ hh (r2.append hcaps)
    have hexec : (execOp a.eval ⟨odst, .call { callee := .value fo', args := args', argTypes := ats }, ty, pos, after, guard⟩).run E.P w = .ok (.enter f (args'.map a.eval ++ cs1)) w := by
      have hb2 : fn.body.isNone = false := by simpa using hbody
      have hn1 : ¬ fn.name = "runtime.NumGoroutine" := by simpa using hname
      have hn2 : ¬ fn.body = none := by intro h; simp [h] at hbody
      simp [execOp, resolve, Sem.run_bind, hcs1, Deferred.ofValue, invoke, callFunc, hfn, hn1, hn2]
    have hgop := stepGR (P := E.P) (b := b) (k := items) (cs := cs) (w := w) (rest := todo) ho hw hcp
    obtain ⟨e, w2', fr, hR, hcomes, hfrf, hleave⟩ := hcall (b.atR a (.inRegion ops (i :: todo) :: items) :: cs)
    obtain ⟨v, H', c', cv, hQ, rfl, hv, hh', hadv'⟩ := hR
    have henter : Go.step E.P (lone (b.atR a (.inRegion ops (i :: todo) :: items)) cs w) = .next (lone (Frame.enter E.P f (args'.map a.eval ++ cs1) .normal) (b.atR a (.inRegion ops (i :: todo) :: items) :: cs) w) :=
      step_lone_go (by rw [hgop]; simp [stepG.apply, hexec, Frame.atR])
    have hfin := region_finish (b := b) (a := a) (rest := todo) (k := items) ho cv
    refine Goes.steps (a' := a.put odst cv) (k' := .inRegion ops todo :: items) (w' := w2') (.head henter (hcomes.trans (.one ?_))) ?_
    · rw [← hfin]; exact step_leave_returned hleave
    · refine hk v H' hQ c0 w0 h0 c' w2' _ (hadv.trans h0 hadv') hh' (by rw [hdst]; exact (ht.mono hadv'.m hadv'.ro).put d hdN hv) ?_ b _ cs hb hbk (.cons (.ops hl') hk')
      cases odst <;> exact hd

theorem Run.inLoop {E : Env} {body k t h} (hr : Run E ⟨.code body :: .inLoop body :: k, t, h⟩) : Run E ⟨.inLoop body :: k, t, h⟩ := by
  intro c0 w0 h0 c w a hadv hh ht hd b items cs hb hbk hk
  cases hk with | cons hx hk => cases hx with | inLoop hc =>
  exact Goes.step stepR_inLoop (hr c0 w0 h0 c w a hadv hh ht hd b _ cs hb hbk (.cons (.code hc) (.cons (.inLoop hc) hk)))

theorem Run.loop {E : Env} {body k} (I : Nat → T → List O → Prop) (round : ∀ n t h, I n t h → (∀ n' t' h', n' < n → I n' t' h' → Run E ⟨.inLoop body :: k, t', h'⟩) → Run E ⟨.code body :: .inLoop body :: k, t, h⟩)
    {n t h} (hI : I n t h) : Run E ⟨.code (.loop body) :: k, t, h⟩ := by
  have key : ∀ n t h, I n t h → Run E ⟨.inLoop body :: k, t, h⟩ := by
    intro n
    induction n using Nat.strongRecOn with
    | _ n ih => intro t h hI; exact Run.inLoop (round n t h hI fun n' t' h' hn hi => ih n' hn t' h' hi)
  intro c0 w0 h0 c w a hadv hh ht hd b items cs hb hbk hk
  cases hk with | cons hx hk => cases hx with | code hc =>
  obtain ⟨x, rfl, hx⟩ := cCode_loop hc
  have := round n t h hI (fun n' t' h' _ hi => key n' t' h' hi)
  exact Goes.step stepR_loop (this c0 w0 h0 c w a hadv hh ht hd b _ cs hb hbk (.cons (.code hx) (.cons (.inLoop hx) hk)))

/-! ### other names -/

structure Names (n0 : Nat) (ρ : Nat → Option Nat) (h h' : List O) : Prop where
  len : n0 ≤ h'.length
  keep : ∀ i, i < n0 → ρ i = some i
  dom : ∀ i j, ρ i = some j → i < h'.length
  obj : ∀ i o, h'[i]? = some o → o.live → ∃ j, ρ i = some j ∧ h[j]? = some (o.ren ρ)
  inj : ∀ i i' j, ρ i = some j → ρ i' = some j → i = i'

def Ctx.via (c : Ctx) (ρ : Nat → Option Nat) : Ctx := ⟨fun i => (ρ i).bind c.m, c.ro⟩

theorem via_some {c : Ctx} {ρ : Nat → Option Nat} {i : Nat} {p : Place} (h : (c.via ρ).m i = some p) : ∃ j, ρ i = some j ∧ c.m j = some p := by
  simp only [Ctx.via] at h
  cases hr : ρ i with
  | none => simp [hr] at h
  | some j => simp [hr] at h; exact ⟨j, rfl, h⟩

theorem via_of {c : Ctx} {ρ : Nat → Option Nat} (i j : Nat) (p : Place) (h : ρ i = some j) (k : c.m j = some p) : (c.via ρ).m i = some p := by simp [Ctx.via, h, k]

theorem reindex {c0 w0 H0 c w h h' ρ} (h0 : HRel c0 w0 H0) (hadv : Adv c0 w0 H0 c w h) (hh : HRel c w h) (hn : Names H0.length ρ h h') : HRel (c.via ρ) w h' ∧ Adv c0 w0 H0 (c.via ρ) w h' := by
  have hlive : ∀ i, Live h' i → ∃ j, ρ i = some j ∧ Live h j := by
    rintro i ⟨o, ho, hl⟩
    obtain ⟨j, hj, hg⟩ := hn.obj i o ho hl
    exact ⟨j, hj, _, hg, O.ren_live.2 hl⟩
  refine ⟨⟨hh.ro, ?_, ?_, ?_, hh.glob⟩, ⟨?_, hadv.ro, hn.len, ?_, hadv.size, hadv.frame, ?_, hadv.freshro, hadv.os, hadv.output, hadv.tape⟩⟩
  · intro i p hi
    obtain ⟨j, hj, _⟩ := via_some hi
    exact hn.dom i j hj
  · intro i o ho hl
    obtain ⟨j, hj, hg⟩ := hn.obj i o ho hl
    obtain ⟨p, hp, hr, hro⟩ := hh.obj j _ hg (O.ren_live.2 hl)
    exact ⟨p, via_of i j p hj hp, hr.of_ren ρ via_of, hro⟩
  · intro i i' p q hi hi' hp hq hpn hqn he
    obtain ⟨j, hj, hl⟩ := hlive i hi
    obtain ⟨j', hj', hl'⟩ := hlive i' hi'
    obtain ⟨k, hk, hp'⟩ := via_some hp
    obtain ⟨k', hk', hq'⟩ := via_some hq
    rw [hj] at hk; cases hk
    rw [hj'] at hk'; cases hk'
    have := hh.inj j j' p q hl hl' hp' hq' hpn hqn he
    subst this
    exact hn.inj i i' j hj hj'
  · intro i p hi
    have hlt := h0.dom i p hi
    exact via_of i i p (hn.keep i hlt) (hadv.m i p hi)
  · intro i hi hl
    obtain ⟨j, hj, hl'⟩ := hlive i hl
    rw [hn.keep i hi] at hj
    cases hj
    exact hadv.live i hi hl'
  · intro i p hi hpn
    obtain ⟨j, hj, hp⟩ := via_some hi
    rcases hadv.fresh j p hp hpn with h1 | h1
    · have hlt := h0.dom j p h1
      have := hn.inj i j j hj (hn.keep j hlt)
      subst this
      exact .inl h1
    · exact .inr h1

theorem Names.less {n m ρ h h'} (hn : Names n ρ h h') (hm : m ≤ n) : Names m ρ h h' :=
  ⟨Nat.le_trans hm hn.len, fun i hi => hn.keep i (Nat.lt_of_lt_of_le hi hm), hn.dom, hn.obj, hn.inj⟩
theorem Names.rel {n ρ h h' c w} (hn : Names n ρ h h') (hh : HRel c w h) : HRel (c.via ρ) w h' := by
  have hlive : ∀ i, Live h' i → ∃ j, ρ i = some j ∧ Live h j := by
    rintro i ⟨o, ho, hl⟩
    obtain ⟨j, hj, hg⟩ := hn.obj i o ho hl
    exact ⟨j, hj, _, hg, O.ren_live.2 hl⟩
  refine ⟨hh.ro, ?_, ?_, ?_, hh.glob⟩
  · intro i p hi
    obtain ⟨j, hj, _⟩ := via_some hi
    exact hn.dom i j hj
  · intro i o ho hl
    obtain ⟨j, hj, hg⟩ := hn.obj i o ho hl
    obtain ⟨p, hp, hr, hro⟩ := hh.obj j _ hg (O.ren_live.2 hl)
    exact ⟨p, via_of i j p hj hp, hr.of_ren ρ via_of, hro⟩
  · intro i i' p q hi hi' hp hq hpn hqn he
    obtain ⟨j, hj, hl⟩ := hlive i hi
    obtain ⟨j', hj', hl'⟩ := hlive i' hi'
    obtain ⟨k, hk, hp'⟩ := via_some hp
    obtain ⟨k', hk', hq'⟩ := via_some hq
    rw [hj] at hk; cases hk
    rw [hj'] at hk'; cases hk'
    have := hh.inj j j' p q hl hl' hp' hq' hpn hqn he
    subst this
    exact hn.inj i i' j hj hj'

theorem Run.weaken {E : Env} {k t h} (ρ : Nat → Option Nat) (t' : T) (h' : List O) (hn : Names E.H0.length ρ h h') (ht : ∀ i, t' i = .any ∨ t i = (t' i).ren ρ) (hr : Run E ⟨k, t', h'⟩) : Run E ⟨k, t, h⟩ := by
  intro c0 w0 h0 c w a hadv hh htr hd b items cs hb hbk hk
  simp only at hadv hh htr hk
  obtain ⟨g1, g2⟩ := reindex h0 hadv hh hn
  refine hr c0 w0 h0 (c.via ρ) w a g2 g1 ⟨htr.size, fun i => ?_⟩ hd b items cs hb hbk hk
  show VRel (c.via ρ).ro (c.via ρ).m (t' i) _
  rcases ht i with h1 | h1
  · rw [h1]; exact .any ..
  · have := htr.rel i
    exact this.of_ren ρ h1 via_of

/-! ### returning -/

inductive ARes where
  | tmp (i : Nat)
  | cell (i : Nat) (k : Option Nat)

def cRes (P : Program) (N : Nat) : ResultVar → Option ARes
  | .tmp i => if i < N then some (.tmp i) else none
  | .cell i t => match cSize P t with
    | some (n, b) => if i < N then some (.cell i (if b then some n else none)) else none
    | none => none

def ARes.ev (t : T) (h : List O) : ARes → Option V
  | .tmp i => some (t i)
  | .cell i k => match opStep t h (.load (.t i) k) with
    | some (v, _) => some v
    | none => none

def evs (t : T) (h : List O) : List ARes → Option (List V)
  | [] => some []
  | r :: rs => match r.ev t h, evs t h rs with
    | some v, some vs => some (v :: vs)
    | _, _ => none

def mkRes : List V → V
  | [v] => v
  | vs => .tup vs

theorem res_one {P N c t a w h} (hh : HRel c w h) (ht : TRel N c t a) {r : ResultVar} {ar : ARes} (hr : cRes P N r = some ar) {v : V} (hv : ar.ev t h = some v) :
    ∃ cv, (match r with | .tmp t => pure (a.tmps.getD t undef) | .cell x t => (do loadVar t (← asAddr (a.tmps.getD x undef))) : Sem Value).run P w = .ok cv w ∧ VRel c.ro c.m v cv := by
  cases r with
  | tmp i =>
    simp only [cRes] at hr
    split at hr <;> cases hr
    simp only [ARes.ev] at hv
    cases hv
    exact ⟨_, rfl, ht.rel i⟩
  | cell i ty =>
    simp only [cRes] at hr
    split at hr
    case h_2 => cases hr
    case h_1 n b hk =>
      split at hr <;> cases hr
      rename_i hi
      simp only [ARes.ev] at hv
      split at hv <;> cases hv
      rename_i h2 hs
      have hx : cOpd N (.tmp i) = some (.t i) := by simp [cOpd, hi]
      obtain ⟨_, cv, h1, h3⟩ := sound_load0 (P := P) hh ht hx hk hs
      refine ⟨cv, ?_, h3⟩
      rw [← h1]
      simp only [Act.eval]
      have : ∃ ad, a.tmps.getD i undef = .pointer (some ad) := by
        have hrel := ht.rel i
        simp only [opStep, Opd.ev] at hs
        generalize t i = tv at *
        split at hs
        · obtain ⟨p, _, _, h⟩ := hrel.ptr_inv; exact ⟨_, h⟩
        · obtain ⟨p, _, _, h⟩ := hrel.eptr_inv; exact ⟨_, h⟩
        · obtain ⟨_, _, _, _, _, _, _, h⟩ := hrel.rptr_inv; exact ⟨_, h⟩
        · cases hs
      obtain ⟨ad, had⟩ := this
      simp only [had, asAddr, Instr.loadAt, Instr.sureAddr]

theorem res_all {P N c t a w h} (hh : HRel c w h) (ht : TRel N c t a) : ∀ (rs : List ResultVar) (ars : List ARes) (vs : List V), rs.mapM (cRes P N) = some ars → evs t h ars = some vs →
    ∃ cvs : List Value, (rs.mapM fun r => (match r with | .tmp t => pure (a.tmps.getD t undef) | .cell x t => (do loadVar t (← asAddr (a.tmps.getD x undef))) : Sem Value)).run P w = .ok cvs w ∧ vs.length = cvs.length ∧ ∀ i (h : i < vs.length) (h' : i < cvs.length), VRel c.ro c.m vs[i] cvs[i]
  | [], ars, vs, hm, he => by
    simp at hm; subst hm
    simp [evs] at he; subst he
    exact ⟨[], rfl, rfl, fun i h => by simp at h⟩
  | r :: rs, ars, vs, hm, he => by
    simp only [List.mapM_cons] at hm
    cases h1 : cRes P N r with
    | none => simp [h1] at hm
    | some ar =>
      cases h2 : rs.mapM (cRes P N) with
      | none => simp [h1, h2] at hm
      | some ars' =>
        simp [h1, h2] at hm; subst hm
        simp only [evs] at he
        split at he <;> cases he
        rename_i v vs' hv hvs
        obtain ⟨cv, g1, g2⟩ := res_one hh ht h1 hv
        obtain ⟨cvs, k1, k2, k3⟩ := res_all hh ht rs ars' vs' h2 hvs
        refine ⟨cv :: cvs, ?_, by simp [k2], fun i a b => ?_⟩
        · simp only [List.mapM_cons, Sem.run_bind, g1, Result.andThen_ok, k1, Sem.run_pure]
        · cases i with
          | zero => exact g2
          | succ i => simpa using k3 i (by simpa using a) (by simpa using b)

theorem results_run {P N c t a w h} (hh : HRel c w h) (ht : TRel N c t a) {fn : Func} {ars vs} (hr : fn.results.toList.mapM (cRes P N) = some ars) (hv : evs t h ars = some vs) :
    ∃ cv, (results fn a.tmps).run P w = .ok cv w ∧ VRel c.ro c.m (mkRes vs) cv := by
  obtain ⟨cvs, h1, h2, h3⟩ := res_all hh ht _ _ _ hr hv
  have hrun : (results fn a.tmps).run P w = .ok (if h : cvs.toArray.size = 1 then cvs.toArray[0] else .tuple cvs.toArray) w := by
    unfold results
    rw [Array.mapM_eq_mapM_toList]
    simp only [Sem.run_bind]
    have : ∀ (s : Sem (List Value)), s.run P w = .ok cvs w → (List.toArray <$> s).run P w = .ok cvs.toArray w := by
      intro s hs
      show (s.bind fun x => Sem.pure x.toArray).run P w = _
      have := Sem.run_bind (P := P) (w := w) s (fun x => Sem.pure x.toArray)
      rw [show s.bind (fun x => Sem.pure x.toArray) = (s >>= fun x => Sem.pure x.toArray) from rfl, this, hs]
      rfl
    exact (congrArg (fun (r : Result (Array Value)) => r.andThen fun a w' => Sem.run P (pure (if h : a.size = 1 then a[0] else Value.tuple a)) w') (this _ h1)).trans rfl
  refine ⟨_, hrun, ?_⟩
  match vs, cvs, h2, h3 with
  | [v], [cv], _, h3 => simp only [mkRes]; exact h3 0 (by simp) (by simp)
  | [], [], _, h3 => exact .tup _ _ _ rfl fun i h => by simp at h
  | a :: b :: r, x :: y :: s, h2, h3 =>
    have : ¬ (x :: y :: s).toArray.size = 1 := by simp
    rw [dif_neg this]
    exact .tup _ _ _ (by simpa using h2) fun i p q => by simpa using h3 i p (by simpa using q)

def AtEnd : List AItem → Prop
  | [] => True
  | .code .ret :: _ => True
  | _ => False

theorem Run.ret {E : Env} {fn : Func} (hf : E.P.funcs[E.f.f]? = some fn) {ars} (hr : fn.results.toList.mapM (cRes E.P E.N) = some ars) {k t h} (hk : AtEnd k) {vs} (hv : evs t h ars = some vs)
    (ρ : Nat → Option Nat) {v' : V} {h' : List O} (hn : Names E.H0.length ρ h h') (hv' : mkRes vs = v'.ren ρ) (hp : E.Post v' h') (hw : E.f.isFn := by exact True.intro) : Run E ⟨k, t, h⟩ := by
  intro c0 w0 h0 c w a hadv hh ht hd b items cs hb hbk hkk
  simp only at hadv hh ht hkk
  have hbk' : b.kind = .normal ∧ b.roundOf = none := by
    generalize E.f = x at hw hbk
    cases x <;> first | exact hbk | exact hw.elim
  have hR : ∀ items, FnR E.P E.f.f E.f.ds E.H0 c0 w0 E.Post (.returned undef) w { b.atR a items with mode := .returning } := by
    refine fun items => ⟨c, h, fn, ⟨_, rfl⟩, rfl, hd, hbk'.1, hb, hf, hh, hadv, fun w2 hh2 => ?_⟩
    obtain ⟨cv, g1, g2⟩ := results_run (P := E.P) hh2 ht hr hv
    exact ⟨cv, v', h', c.via ρ, g1, hp, g2.of_ren ρ hv' via_of, hn.rel hh2, fun c1 w1 H1 hh1 hle hadv1 => (reindex hh1 hadv1 hh2 (hn.less hle)).2⟩
  have hF : ∀ items, E.F c0 w0 (.returned undef) w { b.atR a items with mode := .returning } := by
    intro items
    have := hR items
    unfold Env.F
    generalize E.f = x at hw this
    cases x <;> first | exact this | exact hw.elim
  cases hkk with
  | nil => exact ⟨_, w, _, hF _, Steps.one (stepR_end hbk'.2)⟩
  | cons hx hk' =>
    cases hx with
    | code hc =>
      rename_i ac
      cases ac <;> simp only [AtEnd] at hk
      cases cCode_ret hc
      exact ⟨_, w, _, hF _, Steps.one (stepR_ret hbk'.2)⟩
    | ops => simp only [AtEnd] at hk
    | endB => simp only [AtEnd] at hk
    | inLoop => simp only [AtEnd] at hk
    | beginR => simp only [AtEnd] at hk

/-- the variables at a function's begin -/
def args0 (args : List V) : T := fun i => args.getD i .any

theorem Tri.of_run {P : Program} {f : FuncId} {fn : Func} {body : Code} {ac : AC} {args : List V} {H : List O} {Post} (hf : P.funcs[f]? = some fn) (hb : fn.body = some body) (hname : (fn.name == "runtime.NumGoroutine") = false)
    (hc : cCode P fn.ntmps body = some ac) (hl : args.length ≤ fn.ntmps) (hr : Run ⟨P, .fn f, fn.ntmps, H, Post⟩ ⟨[.code ac], args0 args, H⟩) : Tri P f args H Post := by
  refine ⟨⟨fn, hf, by simp [hb], hname⟩, fun c w cargs hh hv => ?_⟩
  intro cs
  let b : Frame := { (default : Frame) with fn := f, kind := .normal, roundOf := none }
  have henter : Frame.enter P f cargs .normal = b.atR { tmps := cargs ++ Array.replicate (fn.ntmps - cargs.size) undef, defers := [] } [.code body] := by
    simp [Frame.enter, Frame.atR, hf, hb, b]
  rw [henter]
  obtain ⟨e, w', fr, ⟨c1, h1, fn1, ⟨cv0, rfl⟩, m1, m2, m3, m4, m5, m6, m7, m8⟩, h2⟩ := hr c w hh c w { tmps := cargs ++ Array.replicate (fn.ntmps - cargs.size) undef, defers := [] } (Adv.refl ..) hh (by
    refine ⟨by simp; have := hv.1; omega, fun i => ?_⟩
    simp only [args0]
    rcases Nat.lt_or_ge i args.length with hi | hi
    · have hi' : i < cargs.size := by rw [← hv.1]; exact hi
      have := hv.2 i hi hi'
      simp [List.getD_eq_getElem?_getD, List.getElem?_eq_getElem hi, Array.getElem?_append_left hi', hi']
      exact this
    · simp [List.getD_eq_getElem?_getD, List.getElem?_eq_none hi]
      exact .any ..) rfl b [.code body] cs rfl ⟨rfl, rfl⟩ (.cons (.code hc) .nil)
  obtain ⟨cv, v, H', c', k1, k2, k3, k4, k5⟩ := m8 w' m6
  have k5 := k5 c w H hh (Nat.le_refl _) m7
  exact ⟨.returned cv, w', fr, ⟨v, H', c', cv, k2, rfl, k3, k4, k5⟩, h2, m4, m1, m2, m3, fn1, by rw [m4]; exact m5, k1⟩

theorem Tri.of_run' {P : Program} {f : FuncId} {fn : Func} {ac : AC} {args : List V} {H : List O} {Post} (hf : P.funcs[f]? = some fn) (hname : (fn.name == "runtime.NumGoroutine") = false)
    (hc : fn.body.bind (cCode P fn.ntmps) = some ac) (hl : args.length ≤ fn.ntmps) (hr : Run ⟨P, .fn f, fn.ntmps, H, Post⟩ ⟨[.code ac], args0 args, H⟩) : Tri P f args H Post := by
  cases hb : fn.body with
  | none => simp [hb] at hc
  | some body => simp [hb] at hc; exact Tri.of_run hf hb hname hc hl hr

end Sx

/-
  Sx, part Q: the rule of frame; freezing.
-/
namespace Sx
open Go
set_option linter.unusedSimpArgs false
set_option linter.unusedVariables false

def setAll : List O → List Nat → List O → List O
  | H, i :: is, o :: os => setAll (H.set i o) is os
  | H, _, _ => H

theorem setAll_length : ∀ (is : List Nat) (H os : List O), (setAll H is os).length = H.length
  | [], H, os => by cases os <;> rfl
  | i :: is, H, [] => rfl
  | i :: is, H, o :: os => by simp only [setAll]; rw [setAll_length]; simp

theorem setAll_out : ∀ (is : List Nat) (H os : List O) (j : Nat), j ∉ is → (setAll H is os)[j]? = H[j]?
  | [], H, os, j, _ => by cases os <;> rfl
  | i :: is, H, [], j, _ => rfl
  | i :: is, H, o :: os, j, h => by
    simp only [setAll]
    have hne : i ≠ j := fun e => h (by subst e; exact List.mem_cons_self)
    rw [setAll_out is _ os j (fun hh => h (List.mem_cons_of_mem _ hh)), List.getElem?_set_ne hne]

theorem setAll_in : ∀ (is : List Nat) (H os : List O) (k : Nat) (hk : k < is.length), is.Nodup → is[k] < H.length → k < os.length → (setAll H is os)[is[k]]? = os[k]?
  | i :: is, H, [], k, hk, hn, hl, ho => by simp at ho
  | i :: is, H, o :: os, 0, hk, hn, hl, ho => by
    simp only [setAll, List.getElem_cons_zero] at hl ⊢
    rw [setAll_out is _ os i (List.nodup_cons.1 hn).1, List.getElem?_set_self hl]; rfl
  | i :: is, H, o :: os, k + 1, hk, hn, hl, ho => by
    simp only [setAll, List.getElem_cons_succ] at hl ⊢
    rw [setAll_in is (H.set i o) os k (by simpa using hk) (List.nodup_cons.1 hn).2 (by simpa using hl) (by simpa using ho)]
    simp

/-- the callee's names as the caller's -/
def nm (ids : List Nat) (n : Nat) (i : Nat) : Option Nat := if i < ids.length then ids[i]? else some (n + (i - ids.length))

def back (ids : List Nat) (H Hs : List O) : List O := setAll H ids (Hs.map (O.ren (nm ids H.length))) ++ (Hs.drop ids.length).map (O.ren (nm ids H.length))

theorem V.renL_map (ρ) : ∀ l, V.renL ρ l = l.map (V.ren ρ)
  | [] => rfl
  | v :: l => by simp [V.renL, V.renL_map ρ l]

theorem Tri.frame {P : Program} {f : FuncId} {as : List V} {Hs : List O} {Post} (h : Tri P f as Hs Post) (ids : List Nat) (H : List O) (hlen : ids.length = Hs.length) (hnd : ids.Nodup)
    (hlive : ∀ (i : Nat) (o : O), Hs[i]? = some o → o.live) (hobj : ∀ (i : Nat) (hi : i < ids.length) (o : O), Hs[i]? = some o → H[ids[i]]? = some (o.ren (nm ids H.length))) :
    Tri P f (V.renL (nm ids H.length) as) H (fun v H' => ∃ v0 Hs', Post v0 Hs' ∧ v = v0.ren (nm ids H.length) ∧ H' = back ids H Hs') := by
  refine ⟨h.1, fun C w cargs hH hargs => ?_⟩
  -- the names that are there
  have nm_in : ∀ i (hi : i < ids.length), nm ids H.length i = some ids[i] := fun i hi => by simp [nm, hi]
  have hid : ∀ i (hi : i < ids.length), ∃ o, Hs[i]? = some o ∧ H[ids[i]]? = some (o.ren (nm ids H.length)) ∧ ids[i] < H.length := by
    intro i hi
    have ho : Hs[i]? = some (Hs[i]'(by omega)) := List.getElem?_eq_getElem (by omega)
    have := hobj i hi _ ho
    exact ⟨_, ho, this, (List.getElem?_eq_some_iff.1 this).1⟩
  have inj : ∀ i i' (hi : i < ids.length) (hi' : i' < ids.length), ids[i] = ids[i'] → i = i' := fun i i' hi hi' he => (List.getElem_inj hnd).1 he
  let ρ : Nat → Option Nat := fun i => ids[i]?
  have ρ_in : ∀ i (hi : i < ids.length), ρ i = some ids[i] := fun i hi => List.getElem?_eq_getElem hi
  have ρ_some : ∀ i j, ρ i = some j → ∃ hi : i < ids.length, ids[i] = j := fun i j h => by
    obtain ⟨h1, h2⟩ := List.getElem?_eq_some_iff.1 h; exact ⟨h1, h2⟩
  let c : Ctx := C.via ρ
  have cm : ∀ i (hi : i < ids.length), c.m i = C.m ids[i] := fun i hi => by show (ρ i).bind C.m = _; rw [ρ_in i hi]; rfl
  have cm_some : ∀ i p, c.m i = some p → ∃ hi : i < ids.length, C.m ids[i] = some p := fun i p hp => by
    obtain ⟨j, hj, hp'⟩ := via_some hp
    obtain ⟨hi, rfl⟩ := ρ_some i j hj
    exact ⟨hi, hp'⟩
  have of_nm : ∀ i j p, nm ids H.length i = some j → C.m j = some p → c.m i = some p := by
    intro i j p hj hp
    by_cases hi : i < ids.length
    · rw [nm_in i hi] at hj; cases hj; rw [cm i hi]; exact hp
    · simp only [nm, if_neg hi] at hj
      cases hj
      have := hH.dom _ _ hp
      omega
  have hsmall : HRel c w Hs := by
    refine ⟨hH.ro, ?_, ?_, ?_, hH.glob⟩
    · intro i p hp; obtain ⟨hi, _⟩ := cm_some i p hp; omega
    · intro i o ho hl
      have hi : i < ids.length := by rw [hlen]; exact (List.getElem?_eq_some_iff.1 ho).1
      obtain ⟨p, hp, hr, hro⟩ := hH.obj _ _ (hobj i hi o ho) (O.ren_live.2 hl)
      exact ⟨p, by rw [cm i hi]; exact hp, hr.of_ren _ of_nm, hro⟩
    · intro i i' p q hi hi' hp hq hpn hqn he
      obtain ⟨h1, hp'⟩ := cm_some i p hp
      obtain ⟨h2, hq'⟩ := cm_some i' q hq
      obtain ⟨o, ho, hHo, _⟩ := hid i h1
      obtain ⟨o', ho', hHo', _⟩ := hid i' h2
      exact inj i i' h1 h2 (hH.inj _ _ p q ⟨_, hHo, O.ren_live.2 (hlive i o ho)⟩ ⟨_, hHo', O.ren_live.2 (hlive i' o' ho')⟩ hp' hq' hpn hqn he)
  have hargs' : VRels c.ro c.m as cargs := by
    refine ⟨by rw [← hargs.1, V.renL_length], fun i a b => ?_⟩
    have := hargs.2 i (by rw [V.renL_length]; exact a) b
    exact this.of_ren _ (V.renL_get _ _ i _) of_nm
  refine (h.2 c w cargs hsmall hargs').mono ?_
  rintro e w' ⟨v0, Hs', c', cv, hPost, rfl, hv, hh', hadv⟩
  let C' : Ctx := ⟨fun j => if j < H.length then C.m j else c'.m (ids.length + (j - H.length)), c'.ro⟩
  have hl' : Hs.length ≤ Hs'.length := hadv.len
  have c'_old : ∀ i (hi : i < ids.length), c'.m i = C.m ids[i] := by
    intro i hi
    obtain ⟨o, ho, hHo, _⟩ := hid i hi
    obtain ⟨p, hp, _⟩ := hH.obj _ _ hHo (O.ren_live.2 (hlive i o ho))
    rw [hp]
    exact hadv.m i p (by rw [cm i hi]; exact hp)
  have to_nm : ∀ i p, c'.m i = some p → ∃ j, nm ids H.length i = some j ∧ C'.m j = some p := by
    intro i p hp
    by_cases hi : i < ids.length
    · obtain ⟨_, _, _, hlt⟩ := hid i hi
      refine ⟨ids[i], nm_in i hi, ?_⟩
      show (if ids[i] < H.length then C.m ids[i] else _) = _
      rw [if_pos hlt, ← c'_old i hi]; exact hp
    · refine ⟨H.length + (i - ids.length), by simp [nm, hi], ?_⟩
      show (if H.length + (i - ids.length) < H.length then _ else c'.m (ids.length + (H.length + (i - ids.length) - H.length))) = _
      rw [if_neg (by omega), show ids.length + (H.length + (i - ids.length) - H.length) = i from by omega]; exact hp
  have Cext : ∀ i p, C.m i = some p → C'.m i = some p := fun i p hp => by
    show (if i < H.length then C.m i else _) = _
    rw [if_pos (hH.dom i p hp)]; exact hp
  have owns : ∀ b, Owns c Hs b → Owns C H b := by
    rintro b ⟨i, p, hl, hp, hn, rfl⟩
    obtain ⟨hi, hp'⟩ := cm_some i p hp
    obtain ⟨o, ho, hHo, _⟩ := hid i hi
    exact ⟨ids[i], p, ⟨_, hHo, O.ren_live.2 (hlive i o ho)⟩, hp', hn, rfl⟩
  have owns' : ∀ b, Owns c Hs b → ∃ i, ∃ hi : i < ids.length, ∃ p, C.m ids[i] = some p ∧ p.null = false ∧ p.block = b ∧ Live H ids[i] := by
    rintro b ⟨i, p, hl, hp, hn, rfl⟩
    obtain ⟨hi, hp'⟩ := cm_some i p hp
    obtain ⟨o, ho, hHo, _⟩ := hid i hi
    exact ⟨i, hi, p, hp', hn, rfl, ⟨_, hHo, O.ren_live.2 (hlive i o ho)⟩⟩
  -- the objects behind
  have blen : (back ids H Hs').length = H.length + (Hs'.length - ids.length) := by simp [back, setAll_length]
  have b_in : ∀ i (hi : i < ids.length), (back ids H Hs')[ids[i]]? = some ((Hs'[i]'(by omega)).ren (nm ids H.length)) := by
    intro i hi
    obtain ⟨_, _, _, hlt⟩ := hid i hi
    unfold back
    rw [List.getElem?_append_left (by rw [setAll_length]; exact hlt), setAll_in ids H _ i hi hnd hlt (by simp; omega)]
    simp [List.getElem?_eq_getElem (show i < Hs'.length by omega)]
  have b_out : ∀ j, j < H.length → j ∉ ids → (back ids H Hs')[j]? = H[j]? := by
    intro j hj hn
    unfold back
    rw [List.getElem?_append_left (by rw [setAll_length]; exact hj), setAll_out ids H _ j hn]
  have b_new : ∀ j, H.length ≤ j → (back ids H Hs')[j]? = (Hs'[ids.length + (j - H.length)]?).map (O.ren (nm ids H.length)) := by
    intro j hj
    unfold back
    rw [List.getElem?_append_right (by rw [setAll_length]; exact hj), setAll_length, List.getElem?_map, List.getElem?_drop]
  have blocks : ∀ j p, j < H.length → j ∉ ids → Live H j → C.m j = some p → p.null = false → ¬ Owns c Hs p.block := by
    intro j p hj hn hl hp hpn ho
    obtain ⟨i, hi, q, hq, hqn, he, hl'⟩ := owns' _ ho
    have := hH.inj j ids[i] p q hl hl' hp hq hpn hqn he.symm
    exact hn (this ▸ List.getElem_mem _)
  have hHRel : HRel C' w' (back ids H Hs') := by
    refine ⟨hh'.ro, ?_, ?_, ?_, hh'.glob⟩
    · intro j p hp
      rw [blen]
      by_cases hj : j < H.length
      · omega
      · have hp' : c'.m (ids.length + (j - H.length)) = some p := by
          have : C'.m j = c'.m (ids.length + (j - H.length)) := if_neg hj
          rw [← this]; exact hp
        have := hh'.dom _ _ hp'
        omega
    · intro j o ho hl
      by_cases hj : j < H.length
      · by_cases hm : j ∈ ids
        · obtain ⟨i, hi, rfl⟩ := List.getElem_of_mem hm
          rw [b_in i hi] at ho
          cases ho
          have hi' : i < Hs'.length := by omega
          obtain ⟨p, hp, hr, hro⟩ := hh'.obj i Hs'[i] (List.getElem?_eq_getElem hi') (O.ren_live.1 hl)
          refine ⟨p, ?_, hr.to_ren _ to_nm, hro⟩
          rw [c'_old i hi] at hp; exact Cext _ _ hp
        · rw [b_out j hj hm] at ho
          obtain ⟨p, hp, hr, hro⟩ := hH.obj j o ho hl
          have hno := fun hpn => blocks j p hj hm ⟨o, ho, hl⟩ hp hpn
          have hlt := fun hpn => hH.owns_lt ⟨j, p, ⟨o, ho, hl⟩, hp, hpn, rfl⟩
          refine ⟨p, Cext _ _ hp, hr.mono hadv.ro Cext (fun hpn => hadv.frame _ (hlt hpn) (hno hpn)), fun hpn => ?_⟩
          cases hx : c'.ro p.block with
          | none => exact (hx ▸ rfl)
          | some cs =>
            rcases hadv.freshro _ _ hx with h1 | h1 | h1
            · have := hro hpn; rw [show c.ro = C.ro from rfl, this] at h1; cases h1
            · exact absurd h1 (hno hpn)
            · have := hlt hpn; omega
      · rw [b_new j (by omega)] at ho
        cases hx : Hs'[ids.length + (j - H.length)]? with
        | none => simp [hx] at ho
        | some o' =>
          simp [hx] at ho
          subst ho
          obtain ⟨p, hp, hr, hro⟩ := hh'.obj _ _ hx (O.ren_live.1 hl)
          exact ⟨p, (if_neg hj).trans hp, hr.to_ren _ to_nm, hro⟩
    · -- what is at one place is one
      have name : ∀ j p, Live (back ids H Hs') j → C'.m j = some p → (∃ i, Live Hs' i ∧ c'.m i = some p ∧ nm ids H.length i = some j) ∨ (j < H.length ∧ j ∉ ids ∧ Live H j ∧ C.m j = some p) := by
        rintro j p ⟨o, ho, hl⟩ hp
        by_cases hj : j < H.length
        · have hp' : C.m j = some p := by rw [← hp]; exact (if_pos hj).symm
          by_cases hm : j ∈ ids
          · obtain ⟨i, hi, rfl⟩ := List.getElem_of_mem hm
            rw [b_in i hi] at ho
            cases ho
            exact .inl ⟨i, ⟨_, List.getElem?_eq_getElem (by omega), O.ren_live.1 hl⟩, by rw [c'_old i hi]; exact hp', nm_in i hi⟩
          · rw [b_out j hj hm] at ho
            exact .inr ⟨hj, hm, ⟨o, ho, hl⟩, hp'⟩
        · rw [b_new j (by omega)] at ho
          cases hx : Hs'[ids.length + (j - H.length)]? with
          | none => simp [hx] at ho
          | some o' =>
            simp [hx] at ho
            subst ho
            refine .inl ⟨ids.length + (j - H.length), ⟨o', hx, O.ren_live.1 hl⟩, by rw [← hp]; exact (if_neg hj).symm, ?_⟩
            simp only [nm]
            rw [if_neg (by omega)]
            congr 1; omega
      have apart : ∀ i j p q, Live Hs' i → c'.m i = some p → j < H.length → j ∉ ids → Live H j → C.m j = some q → p.null = false → q.null = false → p.block ≠ q.block := by
        intro i j p q hl hp hj hm hl2 hq hpn hqn he
        have hno := blocks j q hj hm hl2 hq hqn
        have hlt := hH.owns_lt ⟨j, q, hl2, hq, hqn, rfl⟩
        rcases hadv.fresh i p hp hpn with h1 | h1 | h1
        · obtain ⟨hi, hp'⟩ := cm_some i p h1
          obtain ⟨o, ho, hHo, _⟩ := hid i hi
          have := hH.inj _ _ p q ⟨_, hHo, O.ren_live.2 (hlive i o ho)⟩ hl2 hp' hq hpn hqn he
          exact hm (this ▸ List.getElem_mem _)
        · rw [he] at h1; exact hno h1
        · omega
      intro j j' p q hj hj' hp hq hpn hqn he
      rcases name j p hj hp with ⟨i, hi, hip, hin⟩ | ⟨h1, h2, h3, h4⟩ <;> rcases name j' q hj' hq with ⟨i', hi', hip', hin'⟩ | ⟨k1, k2, k3, k4⟩
      · have := hh'.inj i i' p q hi hi' hip hip' hpn hqn he
        subst this
        rw [hin] at hin'; cases hin'; rfl
      · exact absurd he (apart i j' p q hi hip k1 k2 k3 k4 hpn hqn)
      · exact absurd he.symm (apart i' j q p hi' hip' h1 h2 h3 h4 hqn hpn)
      · exact hH.inj j j' p q h3 k3 h4 k4 hpn hqn he
  refine ⟨v0.ren (nm ids H.length), back ids H Hs', C', cv, ⟨v0, Hs', hPost, rfl, rfl⟩, rfl, hv.to_ren _ to_nm, hHRel, ?_⟩
  refine ⟨Cext, hadv.ro, by rw [blen]; omega, ?_, hadv.size, fun b hb hno => hadv.frame b hb fun ho => hno (owns b ho), ?_, ?_, hadv.os, hadv.output, hadv.tape⟩
  · intro j hj hl
    by_cases hm : j ∈ ids
    · obtain ⟨i, hi, rfl⟩ := List.getElem_of_mem hm
      obtain ⟨o, ho, hHo, _⟩ := hid i hi
      exact ⟨_, hHo, O.ren_live.2 (hlive i o ho)⟩
    · obtain ⟨o, ho, hl⟩ := hl
      rw [b_out j hj hm] at ho
      exact ⟨o, ho, hl⟩
  · intro j p hp hpn
    by_cases hj : j < H.length
    · left; rw [← hp]; exact (if_pos hj).symm
    · have hp' : c'.m (ids.length + (j - H.length)) = some p := by rw [← hp]; exact (if_neg hj).symm
      rcases hadv.fresh _ p hp' hpn with h1 | h1 | h1
      · obtain ⟨hi, _⟩ := cm_some _ _ h1; omega
      · exact .inr (.inl (owns _ h1))
      · exact .inr (.inr h1)
  · intro b cs hb
    rcases hadv.freshro b cs hb with h1 | h1 | h1
    · exact .inl h1
    · exact .inr (.inl (owns _ h1))
    · exact .inr (.inr h1)

end Sx

/-
  Sx, part R: the rules as a proof uses them.
-/
namespace Sx
open Go
set_option linter.unusedSimpArgs false
set_option linter.unusedVariables false

inductive Res where
  | done (t : T) (h : List O)
  | call (o : AOper) (rest : List AOper) (t : T) (h : List O)
  | stuck (o : AOper) (t : T) (h : List O)

def guardB (t : T) : Option (Nat × Bool) → Option Bool
  | none => some true
  | some (j, want) => match t j with
    | .bool v => some (v == want)
    | .tup [] => some false
    | _ => none

def isCall : AOp → Bool
  | .call .. => true
  | _ => false

def execOps : List AOper → T → List O → Res
  | [], t, h => .done t h
  | ⟨d, g, o⟩ :: l, t, h => match guardB t g with
    | some true => if isCall o = true then .call ⟨d, g, o⟩ l t h else (match opStep t h o with
      | some (v, h') => execOps l (put t d v) h'
      | none => .stuck ⟨d, g, o⟩ t h)
    | some false => execOps l (put t d (.tup [])) h
    | none => .stuck ⟨d, g, o⟩ t h

def Res.run (E : Env) (k : List AItem) : Res → Prop
  | .done t h => Run E ⟨k, t, h⟩
  | .call o rest t h => Run E ⟨.ops (o :: rest) :: k, t, h⟩
  | .stuck .. => False

theorem Run.ops {E : Env} {k : List AItem} : ∀ {l : List AOper} {t h}, (execOps l t h).run E k → Run E ⟨.ops l :: k, t, h⟩
  | [], t, h, hr => Run.step hr
  | ⟨d, g, o⟩ :: l, t, h, hr => by
    have go : ∀ v h', opStep t h o = some (v, h') → (execOps l (put t d v) h').run E k → (opBr t h d o l k).ok E ⟨.ops (⟨d, g, o⟩ :: l) :: k, t, h⟩ := by
      intro v h' hs hr
      unfold opBr
      rw [hs]
      exact Run.ops hr
    simp only [execOps] at hr
    cases g with
    | none =>
      simp only [guardB] at hr
      by_cases hc : isCall o = true
      · rw [if_pos hc] at hr; exact hr
      · rw [if_neg hc] at hr
        cases hs : opStep t h o with
        | none => rw [hs] at hr; exact hr.elim
        | some vh => obtain ⟨v, h'⟩ := vh; rw [hs] at hr; exact Run.step (go v h' hs hr)
    | some jw =>
      obtain ⟨j, want⟩ := jw
      cases ht : t j with
      | bool v =>
        simp only [guardB, ht] at hr
        by_cases hvw : (v == want) = true
        · rw [hvw] at hr
          simp only at hr
          by_cases hc : isCall o = true
          · rw [if_pos hc] at hr; exact hr
          · rw [if_neg hc] at hr
            cases hs : opStep t h o with
            | none => rw [hs] at hr; exact hr.elim
            | some vh =>
              obtain ⟨u, h'⟩ := vh
              rw [hs] at hr
              refine Run.step ?_
              simp only [step1, ht]
              refine ⟨fun _ => ?_, fun hf => (by rw [hvw] at hf; cases hf)⟩
              unfold opBr
              rw [hs]
              exact Run.ops hr
        · have hvw' : (v == want) = false := by simpa using hvw
          rw [hvw'] at hr
          simp only at hr
          refine Run.step ?_
          simp only [step1, ht]
          exact ⟨fun hf => (by rw [hvw'] at hf; cases hf), fun _ => Run.ops hr⟩
      | tup vs =>
        cases vs with
        | nil =>
          simp only [guardB, ht] at hr
          refine Run.step ?_
          simp only [step1, ht]
          exact Run.ops hr
        | cons x xs => simp [guardB, ht, Res.run] at hr
      | _ => simp [guardB, ht, Res.run] at hr

section rules
variable {E : Env} {k : List AItem} {t : T} {h : List O}
theorem Run.region {l} (hr : (execOps l t h).run E k) : Run E ⟨.code (.region l) :: k, t, h⟩ := Run.step (Run.ops hr)
theorem Run.skip (hr : Run E ⟨k, t, h⟩) : Run E ⟨.code .skip :: k, t, h⟩ := Run.step hr
theorem Run.seq {a b} (hr : Run E ⟨.code a :: .code b :: k, t, h⟩) : Run E ⟨.code (.seq a b) :: k, t, h⟩ := Run.step hr
theorem Run.block {id c} (hr : Run E ⟨.code c :: .endB id :: k, t, h⟩) : Run E ⟨.code (.block id c) :: k, t, h⟩ := Run.step hr
theorem Run.endB {id} (hr : Run E ⟨k, t, h⟩) : Run E ⟨.endB id :: k, t, h⟩ := Run.step hr
theorem Run.exit {id k'} (hu : unwind id k = some k') (hr : Run E ⟨k', t, h⟩) : Run E ⟨.code (.exit id) :: k, t, h⟩ := by
  refine Run.step ?_
  simp only [step1, hu]
  exact hr
theorem Run.cond {o a b v} (hv : o.ev t = .bool v) (h1 : v = true → Run E ⟨.code a :: k, t, h⟩) (h2 : v = false → Run E ⟨.code b :: k, t, h⟩) : Run E ⟨.code (.cond o a b) :: k, t, h⟩ := by
  refine Run.step ?_
  simp only [step1, hv]
  exact ⟨h1, h2⟩
theorem Run.condT {o a b} (hv : o.ev t = .bool true) (h1 : Run E ⟨.code a :: k, t, h⟩) : Run E ⟨.code (.cond o a b) :: k, t, h⟩ := Run.cond hv (fun _ => h1) (fun h => by cases h)
theorem Run.condF {o a b} (hv : o.ev t = .bool false) (h1 : Run E ⟨.code b :: k, t, h⟩) : Run E ⟨.code (.cond o a b) :: k, t, h⟩ := Run.cond hv (fun h => by cases h) (fun _ => h1)
end rules

/-- all that a piece can come to -/
def Res.all (S : T → List O → Prop) : Res → Prop
  | .done t h => S t h
  | _ => False

theorem Res.cut {E : Env} {k : List AItem} {r : Res} (S : T → List O → Prop) (h1 : r.all S) (h2 : ∀ t h, S t h → Run E ⟨k, t, h⟩) : r.run E k := by
  cases r with
  | done t h => exact h2 t h h1
  | call o rest t h => exact h1.elim
  | stuck o t h => exact h1.elim

/-- returning what names no object that was made, the old objects as they are now -/
theorem Names.front {n : Nat} {h : List O} (hn : n ≤ h.length) (hp : ∀ o ∈ h.take n, o.ren (fun i => if i < n then some i else none) = o) : Names n (fun i => if i < n then some i else none) h (h.take n) := by
  refine ⟨by simp; omega, fun i hi => by simp [hi], fun i j hij => ?_, fun i o ho hl => ?_, fun i i' j h1 h2 => ?_⟩
  · by_cases hi : i < n
    · simp; omega
    · simp [hi] at hij
  · have hi : i < n := by have := (List.getElem?_eq_some_iff.1 ho).1; simp at this; omega
    refine ⟨i, by simp [hi], ?_⟩
    have hm := List.mem_of_getElem? ho
    rw [hp o hm]
    rwa [List.getElem?_take, if_pos hi] at ho
  · by_cases hi : i < n <;> by_cases hi' : i' < n <;> simp [hi, hi'] at h1 h2
    omega

/-- returning with nothing made and nothing held -/
theorem Run.ret0 {E : Env} (hH : E.H0 = []) {fn : Func} (hf : E.P.funcs[E.f.f]? = some fn) {ars} (hr : fn.results.toList.mapM (cRes E.P E.N) = some ars) {k t h} (hk : AtEnd k) {vs} (hv : evs t h ars = some vs)
    (hp : E.Post (mkRes vs) []) (hpure : (mkRes vs).ren (fun _ => none) = mkRes vs) (hw : E.f.isFn := by exact True.intro) : Run E ⟨k, t, h⟩ :=
  Run.ret hf hr hk hv (fun _ => none) (h' := []) ⟨by simp [hH], (fun i hi => by simp [hH] at hi), (fun i j h => by cases h), (fun i o h => by simp at h), (fun i i' j h => by cases h)⟩ hpure.symm hp hw

/-- a contract of a function that holds no object and makes none that is kept, wherever it is called -/
theorem Tri.any {P : Program} {f : FuncId} {as : List V} {Post : V → Prop} (h : Tri P f as [] (fun v H => Post v ∧ H = [])) (hp : ∀ v ρ, Post v → v.ren ρ = v) (ha : ∀ ρ, V.renL ρ as = as) (H : List O) :
    Tri P f as H (fun v H' => Post v ∧ H' = H) := by
  have := h.frame [] H rfl List.nodup_nil (fun i o h => by simp at h) (fun i hi => by simp at hi)
  rw [ha] at this
  refine this.mono ?_
  rintro v H' ⟨v0, Hs', ⟨h1, rfl⟩, rfl, rfl⟩
  rw [hp _ _ h1]
  exact ⟨h1, by cases H <;> simp [back, setAll]⟩

end Sx

/-
  Sx, part S: a region whose order is open.
-/
namespace Sx
open Go
set_option linter.unusedSimpArgs false
set_option linter.unusedVariables false

/-! ### which variables an operation reads -/

def Opd.rd : Opd → List Nat
  | .t i => [i]
  | .c _ => []

def ordO : Option Opd → List Nat
  | none => []
  | some x => x.rd

def AOp.rd : AOp → List Nat
  | .mv x | .box x | .load x _ | .un _ x | .convI _ x | .convS x | .b2s x | .fld x _ _ | .fldA x _ | .lenS x | .lenL x | .clear x _ | .ext x _ | .nilck x | .capL x | .cvU x | .cvP x _ _ | .usd x | .lenM x => x.rd
  | .pick c a b => c.rd ++ a.rd ++ b.rd
  | .alloc _ | .allocT .. | .dead | .mkm => []
  | .mupd _ m k x => m.rd ++ k.rd ++ x.rd
  | .mget _ m k _ _ | .mdel _ m k => m.rd ++ k.rd
  | .build _ ps => ps.flatMap fun p => p.2.2.rd
  | .bslice _ _ _ ps => ps.flatMap fun p => p.2.rd
  | .store a x _ | .bin _ a x | .eq _ _ a x | .eqG _ _ a x | .idxA a x _ _ | .idxS a x | .idxG a x _ _ _ | .append a x _ _ _ | .copy a x _ | .mks a x _ _ | .appendB a x _ _ | .appendZ a x _ _ _ | .ustr a x _ => a.rd ++ x.rd
  | .slcS x lo hi | .slcA x lo hi _ _ => x.rd ++ ordO lo ++ ordO hi
  | .slc x lo hi mx _ => x.rd ++ ordO lo ++ ordO hi ++ ordO mx
  | .mkf _ cs => cs.flatMap Opd.rd
  | .mm _ xs => xs.flatMap Opd.rd
  | .call f xs => f.rd ++ xs.flatMap Opd.rd

def AOper.rd (o : AOper) : List Nat := o.op.rd ++ (match o.g with | none => [] | some (j, _) => [j])

theorem ev_congr {t t' : T} {x : Opd} (h : ∀ i ∈ x.rd, t i = t' i) : x.ev t = x.ev t' := by
  cases x with
  | t i => exact h i (by simp [Opd.rd])
  | c v => rfl

theorem evs_congr {t t' : T} : ∀ {xs : List Opd}, (∀ i ∈ xs.flatMap Opd.rd, t i = t' i) → xs.map (Opd.ev t) = xs.map (Opd.ev t')
  | [], _ => rfl
  | x :: xs, h => by
    simp only [List.flatMap_cons, List.mem_append] at h
    simp only [List.map_cons, ev_congr (fun i hi => h i (.inl hi)), evs_congr (fun i hi => h i (.inr hi))]

theorem fillAt_congr {t t' : T} : ∀ {ps : List (Nat × Nat × Opd)} {cs : List V}, (∀ i ∈ ps.flatMap (fun p => p.2.2.rd), t i = t' i) → fillAt t cs ps = fillAt t' cs ps
  | [], cs, _ => rfl
  | (a, b, x) :: ps, cs, h => by
    simp only [List.flatMap_cons, List.mem_append] at h
    simp only [fillAt, ev_congr (fun i hi => h i (.inl hi)), fillAt_congr (fun i hi => h i (.inr hi))]

theorem fillEl_congr {t t' : T} {n : Nat} : ∀ {ps : List (Nat × Opd)} {cs : List (List V)}, (∀ i ∈ ps.flatMap (fun p => p.2.rd), t i = t' i) → fillEl t n cs ps = fillEl t' n cs ps
  | [], cs, _ => rfl
  | (a, x) :: ps, cs, h => by
    simp only [List.flatMap_cons, List.mem_append] at h
    simp only [fillEl, ev_congr (fun i hi => h i (.inl hi)), fillEl_congr (fun i hi => h i (.inr hi))]

theorem bound1_congr {t t' : T} {a b : Nat} {x : Option Opd} (h : ∀ i ∈ ordO x, t i = t' i) : bound1 t a b x = bound1 t' a b x := by
  cases x with
  | none => rfl
  | some x => simp only [bound1, ev_congr h]

theorem bounds_congr {t t' : T} {n : Nat} {lo hi : Option Opd} (h : ∀ i ∈ ordO lo ++ ordO hi, t i = t' i) : bounds t n lo hi = bounds t' n lo hi := by
  simp only [List.mem_append] at h
  simp only [bounds, bound1_congr (fun i hi => h i (.inr hi)), bound1_congr (fun i hi => h i (.inl hi))]

theorem boundsC_congr {t t' : T} {m n : Nat} {lo hi : Option Opd} (h : ∀ i ∈ ordO lo ++ ordO hi, t i = t' i) : boundsC t m n lo hi = boundsC t' m n lo hi := by
  simp only [List.mem_append] at h
  simp only [boundsC, bound1_congr (fun i hi => h i (.inr hi)), bound1_congr (fun i hi => h i (.inl hi))]

theorem opStep_congr {t t' : T} {h : List O} {o : AOp} (hr : ∀ i ∈ o.rd, t i = t' i) : opStep t h o = opStep t' h o := by
  cases o <;> simp only [AOp.rd, List.mem_append] at hr <;> simp only [opStep]
  case pick c a b => rw [ev_congr (fun i hi => hr i (.inl (.inl hi))), ev_congr (x := a) (fun i hi => hr i (.inl (.inr hi))), ev_congr (x := b) (fun i hi => hr i (.inr hi))]
  case build z ps => rw [fillAt_congr hr]
  case bslice a b z ps => rw [fillEl_congr hr]
  case slcS x lo hi => simp only [ev_congr (x := x) (fun i hi => hr i (.inl (.inl hi))), bounds_congr (lo := lo) (hi := hi) (fun i hj => hr i (by simp only [List.mem_append] at hj; rcases hj with h | h; exact .inl (.inr h); exact .inr h))]
  case slcA x lo hi n s => simp only [ev_congr (x := x) (fun i hi => hr i (.inl (.inl hi))), bounds_congr (lo := lo) (hi := hi) (fun i hj => hr i (by simp only [List.mem_append] at hj; rcases hj with h | h; exact .inl (.inr h); exact .inr h))]
  case slc x lo hi mx s =>
    have hb : ∀ i ∈ ordO lo ++ ordO hi, t i = t' i := fun i hj => hr i (by simp only [List.mem_append] at hj; rcases hj with h | h; exact .inl (.inl (.inr h)); exact .inl (.inr h))
    cases mx with
    | none => simp only [ev_congr (x := x) (fun i hi => hr i (.inl (.inl (.inl hi)))), bounds_congr hb, boundsC_congr hb]
    | some m => simp only [ev_congr (x := x) (fun i hi => hr i (.inl (.inl (.inl hi)))), ev_congr (x := m) (fun i hi => hr i (.inr hi)), boundsC_congr hb]
  case mkf f cs => rw [evs_congr hr]
  case mm m xs => rw [evs_congr hr]
  case mupd κ m k x => rw [ev_congr (x := m) (fun i hi => hr i (.inl (.inl hi))), ev_congr (x := k) (fun i hi => hr i (.inl (.inr hi))), ev_congr (x := x) (fun i hi => hr i (.inr hi))]
  all_goals first
    | rfl
    | (rw [ev_congr hr])
    | (rw [ev_congr (fun i hi => hr i (.inl hi)), ev_congr (fun i hi => hr i (.inr hi))])
    | (simp only [ev_congr hr])
    | (simp only [ev_congr (fun i hi => hr i (.inl hi)), ev_congr (fun i hi => hr i (.inr hi))])

/-! ### one operation, whatever it is -/

/-- the contract of a round: what calling the loop's yield comes to -/
def TriY (P : Program) (id : Nat) (args : List V) (H : List O) (Post : V → List O → Prop) : Prop :=
  ∀ c w cargs p, HRel c w H → VRels c.ro c.m args cargs → c.m id = some p → p.null = false →
    ∃ f tmps assign body, (Instr.yield p.block cargs).run P w = .ok (.round p.block f tmps assign body) w ∧
      ∀ (fr : Frame) cs, ∃ v w', Steps P (lone (Frame.round p.block f tmps assign body .normal) (fr :: cs) w) (lone (fr.finish v) cs w') ∧ TriR H c w Post (.returned v) w'

theorem VRel.yld_inv {ro m id cv} (h : VRel ro m (.yld id) cv) : ∃ p, m id = some p ∧ p.null = false ∧ cv = .func (.yield p.block) #[] #[] := by cases h; exact ⟨_, by assumption, by assumption, rfl⟩

def AStep (P : Program) (t : T) (h : List O) (o : AOper) (K : T → List O → Prop) : Prop :=
  (guardB t o.g = some false ∧ K (put t o.dst (.tup [])) h) ∨
  (guardB t o.g = some true ∧ ((∃ v h', opStep t h o.op = some (v, h') ∧ K (put t o.dst v) h') ∨
    (∃ fo args f caps Q, o.op = .call fo args ∧ fo.ev t = .fn f caps ∧ Tri P f (args.map (Opd.ev t) ++ caps) h Q ∧ ∀ v h', Q v h' → K (put t o.dst v) h') ∨
    (∃ fo args id Q, o.op = .call fo args ∧ fo.ev t = .yld id ∧ TriY P id (args.map (Opd.ev t)) h Q ∧ ∀ v h', Q v h' → K (put t o.dst v) h')))

theorem guard_wanted {N c t a ops} {o : Oper} (ht : TRel N c t a) {g : Option (Nat × Bool)} (hg : GuardOk N ops o g) {b : Bool} (hb : guardB t g = some b) : Region.wanted o (yielded ops a.tmps) = b := by
  obtain ⟨w1, w2⟩ := wanted_of ht hg
  cases g with
  | none => simp [guardB] at hb; subst hb; exact w1 rfl
  | some jw =>
    obtain ⟨j, want⟩ := jw
    simp only [guardB] at hb
    split at hb
    · rename_i v hv
      cases hb
      rw [w2.1 j want v rfl hv]
      cases v <;> cases want <;> rfl
    · rename_i hv
      cases hb
      exact w2.2 j want rfl hv
    · cases hb

theorem astep_goes {P : Program} {N : Nat} {c0 w0 H0} (h0 : HRel c0 w0 H0) {c w a t h} (hadv : Adv c0 w0 H0 c w h) (hh : HRel c w h) (ht : TRel N c t a) {ds : List Deferred} (hd : a.defers = ds) {b : Frame} {cs items ops i todo} {R : Ending → World → Frame → Prop}
    {o : Oper} {ao : AOper} (ho : ops[i]? = some o) (hco : cOper P N ops o = some ao) {K : T → List O → Prop} (hs : AStep P t h ao K)
    (next : ∀ c' w' a' t' h', Adv c0 w0 H0 c' w' h' → HRel c' w' h' → Adv c w h c' w' h' → TRel N c' t' a' → a'.defers = ds → (∃ v, t' = put t ao.dst v) → K t' h' → Goes P b R (.inRegion ops todo :: items) cs a' w') :
    Goes P b R (.inRegion ops (i :: todo) :: items) cs a w := by
  obtain ⟨d, g, op⟩ := ao
  obtain ⟨hcp, hdst, hdN, hgd⟩ := cOper_spec hco
  have hdef : ∀ v, (a.put o.dst v).defers = ds := fun v => by cases o.dst <;> exact hd
  have hfin := fun v => region_finish (b := b) (a := a) (rest := todo) (k := items) ho v
  rcases hs with ⟨hg, hK⟩ | ⟨hg, hs⟩
  · have hw := guard_wanted ht hgd hg
    refine Goes.step (stepR_op_skip (by simp [ho, hw])) ?_
    simp only [ho, Option.bind_some]
    exact next c w _ _ h hadv hh (Adv.refl ..) (by rw [hdst]; exact ht.put d hdN (.tup _ _ _ rfl fun i h => by simp at h)) (hdef _) ⟨_, rfl⟩ hK
  · have hw := guard_wanted ht hgd hg
    have hgop := stepGR (P := P) (b := b) (k := items) (cs := cs) (w := w) (rest := todo) ho hw hcp
    rcases hs with ⟨v, h', hop, hK⟩ | ⟨fo, args, f, caps, Q, hoc, hf, htri, hQ⟩ | ⟨fo, args, id, Q, hoc, hf, htri, hQ⟩
    · obtain ⟨r, w', c', h1, h2, h3, h4⟩ := op_sound (P := P) hh ht hcp hop
      have ht' := ht.mono h4.m h4.ro
      rcases h2 with ⟨cv, rfl, hv⟩ | ⟨rfl, rfl⟩
      · refine Goes.step (a' := a.put o.dst cv) (k' := .inRegion ops todo :: items) (w' := w') (step_lone_go ?_) ?_
        · rw [hgop, ← hfin]; simp [stepG.apply, h1]
        · exact next c' w' _ _ h' (hadv.trans h0 h4) h3 h4 (by rw [hdst]; exact ht'.put d hdN hv) (hdef _) ⟨_, rfl⟩ hK
      · refine Goes.step (a' := a.put o.dst undef) (k' := .inRegion ops todo :: items) (w' := w') (step_lone_go ?_) ?_
        · rw [hgop, ← hfin]; simp [stepG.apply, h1]
        · exact next c' w' _ _ h' (hadv.trans h0 h4) h3 h4 (by rw [hdst]; exact ht'.put d hdN (.any ..)) (hdef _) ⟨_, rfl⟩ hK
    · simp only at hoc
      subst hoc
      obtain ⟨odst, oop, ty, pos, after, guard⟩ := o
      simp only at hcp hdst
      obtain ⟨fo', args', ats, rfl, hfo, hargs⟩ := cOp_call hcp
      obtain ⟨⟨fn, hfn, hbody, hname⟩, hcalls⟩ := htri
      have r1 := opd_rel ht hfo
      rw [hf] at r1
      obtain ⟨cs1, hcs1, hcaps⟩ := r1.fn_inv
      have r2 := opds_rel ht hargs
      have hcall := hcalls c w _ hh (r2.append hcaps)
      have hexec : (execOp a.eval ⟨odst, .call { callee := .value fo', args := args', argTypes := ats }, ty, pos, after, guard⟩).run P w = .ok (.enter f (args'.map a.eval ++ cs1)) w := by
        have hn1 : ¬ fn.name = "runtime.NumGoroutine" := by simpa using hname
        have hn2 : ¬ fn.body = none := by intro h; simp [h] at hbody
        simp [execOp, resolve, Sem.run_bind, hcs1, Deferred.ofValue, invoke, callFunc, hfn, hn1, hn2]
      obtain ⟨e, w2', fr, hR, hcomes, hfrf, hleave⟩ := hcall (b.atR a (.inRegion ops (i :: todo) :: items) :: cs)
      obtain ⟨v, H', c', cv, hQv, rfl, hv, hh', hadv'⟩ := hR
      have henter : Go.step P (lone (b.atR a (.inRegion ops (i :: todo) :: items)) cs w) = .next (lone (Frame.enter P f (args'.map a.eval ++ cs1) .normal) (b.atR a (.inRegion ops (i :: todo) :: items) :: cs) w) :=
        step_lone_go (by rw [hgop]; simp [stepG.apply, hexec, Frame.atR])
      refine Goes.steps (a' := a.put odst cv) (k' := .inRegion ops todo :: items) (w' := w2') (.head henter (hcomes.trans (.one ?_))) ?_
      · rw [← hfin cv]; exact step_leave_returned hleave
      · exact next c' w2' _ _ H' (hadv.trans h0 hadv') hh' hadv' (by rw [hdst]; exact (ht.mono hadv'.m hadv'.ro).put d hdN hv) (hdef _) ⟨_, rfl⟩ (hQ v H' hQv)
    · simp only at hoc
      subst hoc
      obtain ⟨odst, oop, ty, pos, after, guard⟩ := o
      simp only at hcp hdst
      obtain ⟨fo', args', ats, rfl, hfo, hargs⟩ := cOp_call hcp
      have r1 := opd_rel ht hfo
      rw [hf] at r1
      obtain ⟨p, hp, hpn, hcs1⟩ := r1.yld_inv
      have r2 := opds_rel ht hargs
      obtain ⟨f, tmps, assign, body, hy, hround⟩ := htri c w _ p hh r2 hp hpn
      have hexec : (execOp a.eval ⟨odst, .call { callee := .value fo', args := args', argTypes := ats }, ty, pos, after, guard⟩).run P w = .ok (.round p.block f tmps assign body) w := by
        simp [execOp, resolve, Sem.run_bind, hcs1, Deferred.ofValue, invoke, hy]
      obtain ⟨cv, w2, hsteps, v, H', c', cv', hQv, hcv, hv, hh', hadv'⟩ := hround (b.atR a (.inRegion ops (i :: todo) :: items)) cs
      cases hcv
      have henter : Go.step P (lone (b.atR a (.inRegion ops (i :: todo) :: items)) cs w) = .next (lone (Frame.round p.block f tmps assign body .normal) (b.atR a (.inRegion ops (i :: todo) :: items) :: cs) w) :=
        step_lone_go (by rw [hgop]; simp [stepG.apply, hexec, Frame.atR])
      refine Goes.steps (a' := a.put odst cv) (k' := .inRegion ops todo :: items) (w' := w2) (.head henter (hfin cv ▸ hsteps)) ?_
      exact next c' w2 _ _ H' (hadv.trans h0 hadv') hh' hadv' (by rw [hdst]; exact (ht.mono hadv'.m hadv'.ro).put d hdN hv) (hdef _) ⟨_, rfl⟩ (hQ v H' hQv)

/-! ### an open order -/

/-- an operation of a drawn region: its number, what must lie behind it, itself -/
structure DOp where
  i : Nat
  deps : List Nat
  op : AOper

/-- the order that is still to come may be so -/
def Sched (ops : Array Oper) : List Nat → List Nat → Prop
  | done, [] => ∀ j, j < ops.size → j ∈ done
  | done, j :: todo => j ∉ done ∧ (∃ o, ops[j]? = some o ∧ ∀ e ∈ o.after, Region.binds .any e = true → e.on ∈ done) ∧ Sched ops (j :: done) todo

theorem Sched.mem {ops : Array Oper} : ∀ {done todo : List Nat}, Sched ops done todo → ∀ j, j < ops.size → j ∈ done ∨ j ∈ todo
  | done, [], h, j, hj => .inl (h j hj)
  | done, x :: todo, h, j, hj => by
    rcases h.2.2.mem j hj with h1 | h1
    · rcases List.mem_cons.1 h1 with rfl | h1
      · exact .inr List.mem_cons_self
      · exact .inl h1
    · exact .inr (List.mem_cons_of_mem _ h1)

/-- an order that the model may draw is one -/
theorem sched_linearise {ops : Array Oper} (hb : ∀ (i : Nat) (o : Oper), ops[i]? = some o → ∀ e ∈ o.after, Region.binds .any e = true → e.on < i) : ∀ (fuel t : Nat) (listed : Array Bool) (done : List Nat),
    listed.size = ops.size → (∀ j, j < ops.size → (listed.getD j false = true ↔ j ∈ done)) → ((List.range ops.size).filter (fun j => !listed.getD j false)).length ≤ fuel →
    Sched ops done (Region.linearise.go .any ops fuel t listed []) := by
  intro fuel
  induction fuel with
  | zero =>
    intro t listed done hsz hl hf
    simp only [Region.linearise.go, List.reverse_nil, Sched]
    intro j hj
    refine (hl j hj).1 ?_
    have hnil : (List.range ops.size).filter (fun j => !listed.getD j false) = [] := List.eq_nil_of_length_eq_zero (by omega)
    have := List.filter_eq_nil_iff.1 hnil j (List.mem_range.2 hj)
    simpa using this
  | succ fuel ih =>
    intro t listed done hsz hl hf
    simp only [Region.linearise.go]
    change Sched ops done (match (Region.ready .any ops listed)[t % (Region.ready .any ops listed).length]? with
      | some i => Region.linearise.go .any ops fuel (t / (Region.ready .any ops listed).length) (listed.setIfInBounds i true) [i]
      | none => [].reverse)
    cases hi : (Region.ready .any ops listed)[t % (Region.ready .any ops listed).length]? with
    | none =>
      -- nothing is ready: all are listed
      have hnil : Region.ready .any ops listed = [] := by
        cases hr : Region.ready .any ops listed with
        | nil => rfl
        | cons x xs =>
          rw [hr] at hi
          have hlt : t % (x :: xs).length < (x :: xs).length := Nat.mod_lt _ (by simp)
          rw [List.getElem?_eq_getElem hlt] at hi
          cases hi
      simp only [List.reverse_nil, Sched]
      have key : ∀ n j, j < n → j < ops.size → j ∈ done := by
        intro n
        induction n with
        | zero => intro j h; omega
        | succ n ihn =>
          intro j hjn hj
          rcases Nat.lt_or_ge j n with h1 | h1
          · exact ihn j h1 hj
          · have : j = n := by omega
            subst this
            refine Classical.byContradiction fun hno => ?_
            have hmem : j ∈ Region.ready .any ops listed := by
              rw [mem_ready]
              have hlj : listed.getD j false = false := by
                cases hx : listed.getD j false with
                | false => rfl
                | true => exact absurd ((hl j hj).1 hx) hno
              refine ⟨?_, ops[j], Array.getElem?_eq_getElem hj, fun e he hbe => ?_⟩
              · rw [Array.getD_eq_getD_getElem?, Array.getElem?_eq_getElem (by omega)] at hlj ⊢
                simpa using hlj
              · have hlt := hb j _ (Array.getElem?_eq_getElem hj) e he hbe
                exact (hl e.on (by omega)).2 (ihn e.on hlt (by omega))
            rw [hnil] at hmem
            cases hmem
      exact fun j hj => key (j + 1) j (by omega) hj
    | some i =>
      simp only []
      rw [linearise_go_acc, List.reverse_singleton, List.singleton_append]
      have hir := List.mem_of_getElem? hi
      obtain ⟨h1, o, ho, h2⟩ := mem_ready.1 hir
      have hilt : i < ops.size := (Array.getElem?_eq_some_iff.1 ho).1
      have hlf : listed.getD i false = false := by
        rw [Array.getD_eq_getD_getElem?, Array.getElem?_eq_getElem (by omega)] at h1 ⊢
        simpa using h1
      refine ⟨fun hd => ?_, ⟨o, ho, fun e he hbe => ?_⟩, ?_⟩
      · rw [(hl i hilt).2 hd] at hlf; cases hlf
      · have hlt := hb i o ho e he hbe
        exact (hl e.on (by omega)).1 (h2 e he hbe)
      · refine ih _ _ (i :: done) (by simpa using hsz) (fun j hj => ?_) ?_
        · by_cases e : i = j
          · subst e; simp [hsz, hilt]
          · rw [getD_set_ne false e, hl j hj]
            simp [Ne.symm e]
        · have hsub : ((List.range ops.size).filter (fun j => !(listed.setIfInBounds i true).getD j false)).length < ((List.range ops.size).filter (fun j => !listed.getD j false)).length := by
            have h3 : (List.range ops.size).filter (fun j => !(listed.setIfInBounds i true).getD j false) = ((List.range ops.size).filter (fun j => !listed.getD j false)).filter (fun j => j != i) := by
              rw [List.filter_filter]
              refine List.filter_congr fun j hj => ?_
              by_cases e : i = j
              · subst e; simp [hsz, hilt]
              · rw [getD_set_ne false e]
                simp [Ne.symm e]
            rw [h3]
            have hmem : i ∈ (List.range ops.size).filter (fun j => !listed.getD j false) := by
              rw [List.mem_filter]; exact ⟨List.mem_range.2 hilt, by simp [hlf]⟩
            exact List.length_filter_lt_length_iff_exists.2 ⟨i, hmem, by simp⟩
          omega

end Sx

/-
  Sx, part T: the rules for a region whose order is open.
-/
namespace Sx
open Go
set_option linter.unusedSimpArgs false
set_option linter.unusedVariables false

abbrev DL := List (AOper × List Nat)
def DL.dst (L : DL) (i : Nat) : Option Nat := (L[i]?).bind (·.1.dst)
def DL.deps (L : DL) (i : Nat) : List Nat := ((L[i]?).map (·.2)).getD []
def DL.rd (L : DL) (i : Nat) : List Nat := ((L[i]?).map (·.1.rd)).getD []

def DRel (P : Program) (N : Nat) (ops : Array Oper) (L : DL) : Prop := ops.toList.zipIdx.mapM (cDraw1 P N ops) = some L

theorem DRel.size {P N ops L} (h : DRel P N ops L) : ops.size = L.length := by simpa using (mapM_some _ _ _ h).1

theorem DRel.get {P N ops L} (h : DRel P N ops L) {i : Nat} {o : Oper} (ho : ops[i]? = some o) : ∃ ao, L[i]? = some (ao, depsOf o) ∧ cOper P N ops o = some ao ∧ (∀ j ∈ depsOf o, j < i) := by
  obtain ⟨h1, h2⟩ := mapM_some _ _ _ h
  obtain ⟨hi, rfl⟩ := Array.getElem?_eq_some_iff.1 ho
  have hi' : i < L.length := by rw [← DRel.size h]; exact hi
  have := h2 i (by simpa using hi) hi'
  simp only [List.getElem_zipIdx, Array.getElem_toList, Nat.zero_add] at this
  unfold cDraw1 at this
  split at this
  case h_2 => cases this
  case h_1 a ha =>
    split at this
    case isFalse => cases this
    case isTrue hall =>
      refine ⟨a, ?_, ha, fun j hj => by simpa using List.all_eq_true.1 hall j hj⟩
      rw [List.getElem?_eq_getElem hi']
      simp only [Option.some.injEq] at this ⊢
      exact this.symm

theorem mem_deps {o : Oper} {done : List Nat} (h : ∀ e ∈ o.after, Region.binds .any e = true → e.on ∈ done) : ∀ j ∈ depsOf o, j ∈ done := by
  intro j hj
  simp only [depsOf, List.mem_map, List.mem_filter] at hj
  obtain ⟨e, ⟨he, hb⟩, rfl⟩ := hj
  exact h e (by simpa using he) hb

def hidden (L : DL) (pend done : List Nat) : List Nat := (pend.filter (fun j => !done.contains j)).filterMap L.dst
def mask (t : T) (X : List Nat) : T := fun i => if i ∈ X then .any else t i

/-- what is done is done with all that must lie behind it -/
def Closed (ops : Array Oper) (done : List Nat) : Prop := ∀ j o, j ∈ done → ops[j]? = some o → ∀ e ∈ o.after, Region.binds .any e = true → e.on ∈ done
theorem Closed.cons {ops : Array Oper} {done : List Nat} (h : Closed ops done) {j o} (ho : ops[j]? = some o) (hd : ∀ e ∈ o.after, Region.binds .any e = true → e.on ∈ done) : Closed ops (j :: done) := by
  intro i o' hi ho' e he hb
  rcases List.mem_cons.1 hi with rfl | hi
  · rw [ho] at ho'; cases ho'; exact List.mem_cons_of_mem _ (hd e he hb)
  · exact List.mem_cons_of_mem _ (h i o' hi ho' e he hb)

/-- what must lie behind, and what behind that -/
def clo (L : DL) : Nat → List Nat → List Nat
  | 0, ds => ds
  | n + 1, ds => clo L n ((List.range L.length).filter fun x => ds.contains x || ds.any fun y => (L.deps y).contains x)

theorem clo_done {P N ops L} (hD : DRel P N ops L) {done : List Nat} (hc : Closed ops done) : ∀ n ds, (∀ d ∈ ds, d ∈ done) → ∀ d ∈ clo L n ds, d ∈ done
  | 0, ds, h, d, hd => h d hd
  | n + 1, ds, h, d, hd => by
    refine clo_done hD hc n _ (fun x hx => ?_) d hd
    simp only [List.mem_filter, Bool.or_eq_true, List.contains_eq_mem, decide_eq_true_eq, List.any_eq_true] at hx
    rcases hx.2 with hx | ⟨y, hy, hxy⟩
    · exact h x hx
    · have hyd := h y hy
      cases hL : L[y]? with
      | none => simp [DL.deps, hL] at hxy
      | some yo =>
        have hlt : y < ops.size := by rw [hD.size]; exact (List.getElem?_eq_some_iff.1 hL).1
        obtain ⟨ao, h1, _, _⟩ := hD.get (Array.getElem?_eq_getElem hlt)
        have : L.deps y = depsOf ops[y] := by simp [DL.deps, h1]
        rw [this] at hxy
        exact mem_deps (hc y _ hyd (Array.getElem?_eq_getElem hlt)) x hxy

theorem clo_mem {L : DL} : ∀ n (ds : List Nat), (∀ d ∈ ds, d < L.length) → ∀ d ∈ ds, d ∈ clo L n ds
  | 0, ds, _, d, hd => hd
  | n + 1, ds, h, d, hd => by
    refine clo_mem n _ (fun x hx => ?_) d ?_
    · simp only [List.mem_filter, List.mem_range] at hx; exact hx.1
    · simp only [List.mem_filter, List.mem_range, Bool.or_eq_true, List.contains_eq_mem, decide_eq_true_eq]; exact ⟨h d hd, .inl hd⟩

def RunD (E : Env) (L : DL) (rest pend : List Nat) (k : List AItem) (t : T) (h : List O) : Prop :=
  ∀ ops, DRel E.P E.N ops L → ∀ c0 w0, HRel c0 w0 E.H0 → ∀ c w a done todo, Adv c0 w0 E.H0 c w h → HRel c w h → Sched ops done todo → Closed ops done → (∀ i ∈ done, i ∉ rest) → (∀ i, i < L.length → i ∉ rest → i ∉ pend → i ∈ done) →
    TRel E.N c (mask t (hidden L pend done)) a → a.defers = E.f.ds → ∀ (b : Frame) items cs, b.fn = E.f.f → E.f.ok c0 b → KRel E.P E.N k items → Goes E.P b (E.F c0 w0) (.inRegion ops todo :: items) cs a w

theorem Run.drawn {E : Env} (hm : E.P.follows .mixedOrders = true) {L k t h} (hr : RunD E L (List.range L.length) [] k t h) : Run E ⟨.code (.drawn L) :: k, t, h⟩ := by
  intro c0 w0 h0 c w a hadv hh ht hd b items cs hb hbk hk
  simp only at hadv hh ht hk
  cases hk with
  | @cons _ y _ items hx hk =>
  cases hx with
  | code hc =>
  obtain ⟨id, ops, rfl, hl⟩ := cCode_drawn hc
  have hD : DRel E.P E.N ops L := hl
  refine Goes.step stepR_region_draw ?_
  simp only [Region.schedule, hm, Bool.true_or, if_true]
  have hadv' : Adv c w h c { w with drawn := w.drawn + 1 } h := ⟨fun _ _ h => h, fun _ _ h => h, Nat.le_refl _, fun _ _ h => h, Nat.le_refl _, fun _ _ _ => rfl, fun _ _ h _ => .inl h, fun _ _ h => .inl h, rfl, rfl, rfl⟩
  have hh' : HRel c { w with drawn := w.drawn + 1 } h := ⟨hh.ro, hh.dom, fun i o ho hl => let ⟨p, h1, h2, h3⟩ := hh.obj i o ho hl; ⟨p, h1, h2.mono (fun _ _ h => h) (fun _ _ h => h) (fun _ => rfl), h3⟩, hh.inj, hh.glob⟩
  refine hr ops hD c0 w0 h0 c _ a [] _ (hadv.trans h0 hadv') hh' ?_ (fun j o hj => by cases hj) (fun i hi => by cases hi) (fun i hi hn => absurd (List.mem_range.2 hi) hn) ?_ hd b items cs hb hbk hk
  · refine sched_linearise (fun i o ho e he hbe => ?_) ops.size _ _ [] (by simp) (fun j hj => ?_) ?_
    · obtain ⟨ao, _, _, h3⟩ := hD.get ho
      exact h3 e.on (by simp only [depsOf, List.mem_map, List.mem_filter]; exact ⟨e, ⟨by simpa using he, hbe⟩, rfl⟩)
    · simp [hj]
    · refine Nat.le_trans (List.length_filter_le _ _) (by simp)
  · exact ht

/-- an operation is taken out of the way: its value is known, it runs when it runs -/
theorem RunD.float {E : Env} {L rest pend k t h} (x : Nat) (v : V) (hx : x ∈ rest) (hn : rest.Nodup) (hr : RunD E L (rest.erase x) (x :: pend) k (put t (L.dst x) v) h) : RunD E L rest pend k t h := by
  intro ops hD c0 w0 h0 c w a done todo hadv hh hs hcl hdr hall ht hd b items cs hb hbk hk
  have hxd : x ∉ done := fun h => hdr x h hx
  refine hr ops hD c0 w0 h0 c w a done todo hadv hh hs hcl (fun i hi hm => hdr i hi (List.mem_of_mem_erase hm)) (fun i hi h1 h2 => ?_) ⟨ht.size, fun i => ?_⟩ hd b items cs hb hbk hk
  · refine hall i hi (fun hm => ?_) (fun hm => h2 (List.mem_cons_of_mem _ hm))
    have : i ≠ x := fun e => h2 (by rw [e]; exact List.mem_cons_self)
    exact h1 ((List.mem_erase_of_ne this).2 hm)
  · have := ht.rel i
    have hhid : hidden L (x :: pend) done = (L.dst x).toList ++ hidden L pend done := by
      simp only [hidden, List.filter_cons, List.contains_eq_mem, hxd, decide_false, Bool.not_false, if_true, List.filterMap_cons]
      cases L.dst x <;> rfl
    rw [hhid]
    simp only [mask, List.mem_append] at this ⊢
    by_cases h1 : i ∈ hidden L pend done
    · rw [if_pos (.inr h1)]; exact .any ..
    · rw [if_neg h1] at this
      cases hdx : L.dst x with
      | none => simp only [Option.toList, List.not_mem_nil, false_or, if_neg h1, put]; exact this
      | some d =>
        by_cases e : i = d
        · subst e; simp; exact .any ..
        · simp only [Option.toList, List.mem_singleton, e, false_or, if_neg h1, put, upd, if_false]; exact this

/-- what is known in the second is known in the first -/
def TRelLe (t t' : T) : Prop := ∀ i, t i = t' i ∨ t' i = .any

theorem TRel.le {N c t t' a} (h : TRel N c t a) (hl : TRelLe t t') : TRel N c t' a := ⟨h.size, fun i => by
  rcases hl i with e | e
  · rw [← e]; exact h.rel i
  · rw [e]; exact .any ..⟩

/-- a call that answers one thing and leaves all as it is -/
def CallIs (P : Program) (t : T) (h : List O) (op : AOp) (v : V) : Prop :=
  ∃ fo args f caps Q, op = .call fo args ∧ fo.ev t = .fn f caps ∧ Tri P f (args.map (Opd.ev t) ++ caps) h Q ∧ ∀ v' h', Q v' h' → v' = v ∧ h' = h

theorem CallIs.congr {P t t' h op v} (hr : ∀ i ∈ op.rd, t i = t' i) (hc : CallIs P t h op v) : CallIs P t' h op v := by
  obtain ⟨fo, args, f, caps, Q, h3, h4, h5, h6⟩ := hc
  subst h3
  refine ⟨fo, args, f, caps, Q, rfl, ?_, ?_, h6⟩
  · rw [← h4]; exact (ev_congr fun i hi => hr i (by simp [AOp.rd, hi])).symm
  · have : args.map (Opd.ev t) = args.map (Opd.ev t') := evs_congr fun i hi => hr i (by
      simp only [AOp.rd, List.mem_append]; exact .inr hi)
    rw [← this]; exact h5

/-- what was taken out of the way still comes to its value -/
def PendOk (P : Program) (L : DL) (t : T) (h : List O) : List Nat → Prop
  | [] => True
  | x :: xs => (match L[x]? with
    | none => True
    | some (o, _) => (guardB t o.g = some true ∧ ∃ v, (opStep t h o.op = some (v, h) ∨ CallIs P t h o.op v) ∧ ∀ d, o.dst = some d → t d = v) ∨ (guardB t o.g = some false ∧ ∀ d, o.dst = some d → t d = .tup [])) ∧ PendOk P L t h xs

theorem PendOk.get {P : Program} {L : DL} {t h} : ∀ {pend : List Nat}, PendOk P L t h pend → ∀ x ∈ pend, ∀ o ds, L[x]? = some (o, ds) → (guardB t o.g = some true ∧ ∃ v, (opStep t h o.op = some (v, h) ∨ CallIs P t h o.op v) ∧ ∀ d, o.dst = some d → t d = v) ∨ (guardB t o.g = some false ∧ ∀ d, o.dst = some d → t d = .tup [])
  | y :: ys, hp, x, hx, o, ds, ho => by
    rcases List.mem_cons.1 hx with rfl | hx
    · have := hp.1
      rw [ho] at this
      exact this
    · exact hp.2.get x hx o ds ho

def statOk (L : DL) (rest pend : List Nat) : Bool :=
  pend.all fun x => match L.dst x with
    | none => true
    | some d => (pend.all fun y => (L.deps y).contains x || !(L.rd y).contains d) && (pend.all fun y => y == x || L.dst y != some d) && rest.all fun y => (L.deps y).contains x || !(L.rd y).contains d

theorem guardB_congr {t t' : T} {g : Option (Nat × Bool)} (h : ∀ j b, g = some (j, b) → t j = t' j) : guardB t g = guardB t' g := by
  cases g with
  | none => rfl
  | some jb => obtain ⟨j, b⟩ := jb; simp only [guardB, h j b rfl]

theorem AStep.congr {P t t' h o K K'} (hr : ∀ i ∈ o.rd, t i = t' i) (hs : AStep P t h o K) (hk : ∀ v h', K (put t o.dst v) h' → K' (put t' o.dst v) h') : AStep P t' h o K' := by
  have hg : guardB t o.g = guardB t' o.g := guardB_congr fun j b e => hr j (by simp only [AOper.rd, e]; simp)
  have hop : opStep t h o.op = opStep t' h o.op := opStep_congr fun i hi => hr i (by simp only [AOper.rd]; simp [hi])
  rcases hs with ⟨h1, h2⟩ | ⟨h1, h2⟩
  · exact .inl ⟨hg ▸ h1, hk _ _ h2⟩
  · refine .inr ⟨hg ▸ h1, ?_⟩
    rcases h2 with ⟨v, h', h3, h4⟩ | ⟨fo, args, f, caps, Q, h3, h4, h5, h6⟩ | ⟨fo, args, f, Q, h3, h4, h5, h6⟩
    · exact .inl ⟨v, h', hop ▸ h3, hk _ _ h4⟩
    · refine .inr (.inl ⟨fo, args, f, caps, Q, h3, ?_, ?_, fun v h' hq => hk _ _ (h6 v h' hq)⟩)
      · rw [← h4]; exact (ev_congr fun i hi => hr i (by simp [AOper.rd, h3, AOp.rd, hi])).symm
      · have : args.map (Opd.ev t) = args.map (Opd.ev t') := evs_congr fun i hi => hr i (by
          simp only [AOper.rd, h3, AOp.rd, List.mem_append]; exact .inl (.inr hi))
        rw [← this]; exact h5
    · refine .inr (.inr ⟨fo, args, f, Q, h3, ?_, ?_, fun v h' hq => hk _ _ (h6 v h' hq)⟩)
      · rw [← h4]; exact (ev_congr fun i hi => hr i (by simp [AOper.rd, h3, AOp.rd, hi])).symm
      · have : args.map (Opd.ev t) = args.map (Opd.ev t') := evs_congr fun i hi => hr i (by
          simp only [AOper.rd, h3, AOp.rd, List.mem_append]; exact .inl (.inr hi))
        rw [← this]; exact h5

theorem mem_hidden {L : DL} {pend done : List Nat} {d : Nat} : d ∈ hidden L pend done ↔ ∃ x ∈ pend, x ∉ done ∧ L.dst x = some d := by
  simp only [hidden, List.mem_filterMap, List.mem_filter, Bool.not_eq_true', List.contains_eq_mem, decide_eq_false_iff_not]
  exact ⟨fun ⟨x, ⟨a, b⟩, c⟩ => ⟨x, a, b, c⟩, fun ⟨x, a, b, c⟩ => ⟨x, ⟨a, b⟩, c⟩⟩

theorem read_clear {L : DL} {rest pend : List Nat} (hst : statOk L rest pend = true) {t : T} {done j ao ds} (hL : L[j]? = some (ao, ds)) (hds : ∀ x ∈ ds, x ∈ done) (hj : j ∈ pend ∨ j ∈ rest) : ∀ i ∈ ao.rd, t i = mask t (hidden L pend done) i := by
  intro i hi
  have hdd : L.deps j = ds := by simp [DL.deps, hL]
  have hrd : L.rd j = ao.rd := by simp [DL.rd, hL]
  simp only [mask]
  rw [if_neg]
  intro hm
  obtain ⟨x, hx, hxd, hxs⟩ := mem_hidden.1 hm
  have := List.all_eq_true.1 hst x hx
  simp only [hxs, Bool.and_eq_true] at this
  have key : ((L.deps j).contains x || !(L.rd j).contains i) = true := by
    rcases hj with hj | hj
    · exact List.all_eq_true.1 this.1.1 j hj
    · exact List.all_eq_true.1 this.2 j hj
  rw [hdd, hrd] at key
  simp only [List.contains_eq_mem, hi, decide_true, Bool.not_true, Bool.or_false, decide_eq_true_eq] at key
  exact hxd (hds x key)

/-- a step of what was taken out of the way -/
theorem pend_goes {E : Env} {L : DL} {rest pend : List Nat} {t : T} {h : List O} (hst : statOk L rest pend = true) (hpo : PendOk E.P L t h pend) {ops} (hD : DRel E.P E.N ops L) {c0 w0} (h0 : HRel c0 w0 E.H0) {c w a done j todo}
    (hadv : Adv c0 w0 E.H0 c w h) (hh : HRel c w h) (hs : Sched ops done (j :: todo)) (hj : j ∈ pend) (ht : TRel E.N c (mask t (hidden L pend done)) a) (hd : a.defers = E.f.ds) {b : Frame} {items cs}
    (next : ∀ c' w' a', Adv c0 w0 E.H0 c' w' h → HRel c' w' h → TRel E.N c' (mask t (hidden L pend (j :: done))) a' → a'.defers = E.f.ds → Goes E.P b (E.F c0 w0) (.inRegion ops todo :: items) cs a' w') :
    Goes E.P b (E.F c0 w0) (.inRegion ops (j :: todo) :: items) cs a w := by
  obtain ⟨hjd, ⟨o, ho, hdeps⟩, hs'⟩ := hs
  obtain ⟨ao, hL, hco, _⟩ := hD.get ho
  have hdst : L.dst j = ao.dst := by simp [DL.dst, hL]
  have hread := read_clear (t := t) hst hL (mem_deps hdeps) (.inl hj)
  have hval : ∃ v, (∀ d, ao.dst = some d → t d = v) ∧ AStep E.P t h ao (fun t' h' => t' = put t ao.dst v ∧ h' = h) := by
    rcases hpo.get j hj ao _ hL with ⟨hg, v, hop | hop, hv⟩ | ⟨hg, hv⟩
    · exact ⟨v, hv, .inr ⟨hg, .inl ⟨v, h, hop, rfl, rfl⟩⟩⟩
    · obtain ⟨fo, args, f, caps, Q, h3, h4, h5, h6⟩ := hop
      exact ⟨v, hv, .inr ⟨hg, .inr (.inl ⟨fo, args, f, caps, Q, h3, h4, h5, fun v' h' hq => by obtain ⟨rfl, rfl⟩ := h6 v' h' hq; exact ⟨rfl, rfl⟩⟩)⟩⟩
    · exact ⟨.tup [], hv, .inl ⟨hg, rfl, rfl⟩⟩
  obtain ⟨v, hv, hstep⟩ := hval
  have hput : put t ao.dst v = t := by
    cases hda : ao.dst with
    | none => rfl
    | some d =>
      funext i
      simp only [put, upd]
      split
      · rename_i e; rw [e]; exact (hv d hda).symm
      · rfl
  have hstep' : AStep E.P (mask t (hidden L pend done)) h ao (fun t' h' => TRelLe t' (mask t (hidden L pend (j :: done))) ∧ h' = h) := by
    refine hstep.congr hread fun v' h' ⟨h1, h2⟩ => ⟨fun i => ?_, h2⟩
    by_cases hi : i ∈ hidden L pend (j :: done)
    · exact .inr (by simp [mask, hi])
    · refine .inl ?_
      have hput' : put t ao.dst v' = t := h1.trans hput
      have h3 : put t ao.dst v' i = t i := congrFun hput' i
      simp only [mask, if_neg hi]
      by_cases hid : ao.dst = some i
      · rw [hid] at h3 ⊢
        simpa [put, upd] using h3
      · have hni : i ∉ hidden L pend done := fun hm => by
          obtain ⟨x, hx, hxd, hxs⟩ := mem_hidden.1 hm
          refine hi (mem_hidden.2 ⟨x, hx, fun hm => ?_, hxs⟩)
          rcases List.mem_cons.1 hm with rfl | hm
          · exact hid (hdst ▸ hxs)
          · exact hxd hm
        have : put (mask t (hidden L pend done)) ao.dst v' i = mask t (hidden L pend done) i := by
          cases hda : ao.dst with
          | none => rfl
          | some d =>
            have : i ≠ d := fun e => hid (by rw [hda, e])
            simp [put, upd, this]
        rw [this, mask, if_neg hni]
  refine astep_goes h0 hadv hh ht hd ho hco hstep' ?_
  intro c' w' a' t' h' hadv' hh' _ ht' hd' _ ⟨hle, he⟩
  subst he
  exact next c' w' a' hadv' hh' (ht'.le hle) hd'

theorem RunD.next {E : Env} {L rest pend k t h} (hst : statOk L rest pend = true) (hne : (rest.any (· < L.length)) = true) (hnd : rest.Nodup) (hdj : pend.all (fun x => !rest.contains x) = true) (hpo : PendOk E.P L t h pend)
    (hr : ∀ y ∈ rest, (L.deps y).all (fun d => !rest.contains d) = true → ∃ o ds, L[y]? = some (o, ds) ∧ AStep E.P t h o (fun t' h' => RunD E L (rest.erase y) pend k t' h')) : RunD E L rest pend k t h := by
  intro ops hD c0 w0 h0 c w a done todo
  induction todo generalizing c w a done with
  | nil =>
    intro hadv hh hs hcl hdr hall ht hd b items cs hb hbk hk
    obtain ⟨x, hx, hxl⟩ := List.any_eq_true.1 hne
    exact absurd hx (hdr x (hs x (by rw [hD.size]; simpa using hxl)))
  | cons j todo ih =>
    intro hadv hh hs hcl hdr hall ht hd b items cs hb hbk hk
    have hjs := hs
    obtain ⟨hjd, ⟨o, ho, hdeps⟩, hs'⟩ := hs
    obtain ⟨ao, hL, hco, _⟩ := hD.get ho
    have hjl : j < L.length := (List.getElem?_eq_some_iff.1 hL).1
    by_cases hjp : j ∈ pend
    · have hjr : j ∉ rest := by simpa using List.all_eq_true.1 hdj j hjp
      refine pend_goes hst hpo hD h0 hadv hh hjs hjp ht hd fun c' w' a' hadv' hh' ht' hd' => ?_
      exact ih c' w' a' (j :: done) hadv' hh' hs' (hcl.cons ho hdeps) (fun i hi => by rcases List.mem_cons.1 hi with rfl | hi; exact hjr; exact hdr i hi) (fun i hi h1 h2 => List.mem_cons_of_mem _ (hall i hi h1 h2)) ht' hd' b items cs hb hbk hk
    · have hjr : j ∈ rest := Classical.byContradiction fun hn => hjd (hall j hjl hn hjp)
      obtain ⟨o', ds, hL', hstep⟩ := hr j hjr (by
        have : L.deps j = depsOf o := by simp [DL.deps, hL]
        rw [this]
        refine List.all_eq_true.2 fun d hdd => ?_
        simpa using hdr d (mem_deps hdeps d hdd))
      rw [hL] at hL'
      cases hL'
      have hread := read_clear (t := t) hst hL (mem_deps hdeps) (.inr hjr)
      have hstep' : AStep E.P (mask t (hidden L pend done)) h ao (fun t' h' => ∃ t1, RunD E L (rest.erase j) pend k t1 h' ∧ TRelLe t' (mask t1 (hidden L pend (j :: done)))) := by
        refine hstep.congr hread fun v h' h1 => ⟨_, h1, fun i => ?_⟩
        have hhid : ∀ i, i ∈ hidden L pend (j :: done) ↔ i ∈ hidden L pend done := by
          intro i
          simp only [mem_hidden]
          refine ⟨fun ⟨x, a, b, c⟩ => ⟨x, a, fun hm => b (List.mem_cons_of_mem _ hm), c⟩, fun ⟨x, a, b, c⟩ => ⟨x, a, fun hm => ?_, c⟩⟩
          rcases List.mem_cons.1 hm with rfl | hm
          · exact hjp a
          · exact b hm
        by_cases hi : i ∈ hidden L pend done
        · exact .inr (by simp [mask, hhid, hi])
        · refine .inl ?_
          simp only [mask, hhid, if_neg hi]
          cases ao.dst with
          | none => simp only [put, mask, if_neg hi]
          | some d =>
            simp only [put, upd]
            split
            · rfl
            · simp only [mask, if_neg hi]
      refine astep_goes h0 hadv hh ht hd ho hco hstep' ?_
      intro c' w' a' t' h' hadv' hh' _ ht' hd' _ ⟨t1, hrun, hle⟩
      refine hrun ops hD c0 w0 h0 c' w' a' (j :: done) todo hadv' hh' hs' (hcl.cons ho hdeps) ?_ ?_ (ht'.le hle) hd' b items cs hb hbk hk
      · intro i hi hm
        rcases List.mem_cons.1 hi with rfl | hi
        · exact (List.Nodup.mem_erase_iff hnd).1 hm |>.1 rfl
        · exact hdr i hi (List.mem_of_mem_erase hm)
      · intro i hi h1 h2
        by_cases e : i = j
        · subst e; exact List.mem_cons_self
        · exact List.mem_cons_of_mem _ (hall i hi (fun hm => h1 ((List.mem_erase_of_ne e).2 hm)) h2)

theorem RunD.next' {E : Env} {L rest pend k t h} (hst : statOk L rest pend = true) (hne : (rest.any (· < L.length)) = true) (hnd : rest.Nodup) (hdj : pend.all (fun x => !rest.contains x) = true) (hpo : PendOk E.P L t h pend)
    (hr : ∀ y ∈ rest, (L.deps y).all (fun d => !rest.contains d) = true → ∃ o ds, L[y]? = some (o, ds) ∧ AStep E.P t h o (fun t' h' => RunD E L (rest.erase y) (pend.filter fun x => !(clo L L.length ds).contains x) k t' h')) : RunD E L rest pend k t h := by
  intro ops hD c0 w0 h0 c w a done todo
  induction todo generalizing c w a done with
  | nil =>
    intro hadv hh hs hcl hdr hall ht hd b items cs hb hbk hk
    obtain ⟨x, hx, hxl⟩ := List.any_eq_true.1 hne
    exact absurd hx (hdr x (hs x (by rw [hD.size]; simpa using hxl)))
  | cons j todo ih =>
    intro hadv hh hs hcl hdr hall ht hd b items cs hb hbk hk
    have hjs := hs
    obtain ⟨hjd, ⟨o, ho, hdeps⟩, hs'⟩ := hs
    obtain ⟨ao, hL, hco, _⟩ := hD.get ho
    have hjl : j < L.length := (List.getElem?_eq_some_iff.1 hL).1
    by_cases hjp : j ∈ pend
    · have hjr : j ∉ rest := by simpa using List.all_eq_true.1 hdj j hjp
      refine pend_goes hst hpo hD h0 hadv hh hjs hjp ht hd fun c' w' a' hadv' hh' ht' hd' => ?_
      exact ih c' w' a' (j :: done) hadv' hh' hs' (hcl.cons ho hdeps) (fun i hi => by rcases List.mem_cons.1 hi with rfl | hi; exact hjr; exact hdr i hi) (fun i hi h1 h2 => List.mem_cons_of_mem _ (hall i hi h1 h2)) ht' hd' b items cs hb hbk hk
    · have hjr : j ∈ rest := Classical.byContradiction fun hn => hjd (hall j hjl hn hjp)
      obtain ⟨o', ds, hL', hstep⟩ := hr j hjr (by
        have : L.deps j = depsOf o := by simp [DL.deps, hL]
        rw [this]
        refine List.all_eq_true.2 fun d hdd => ?_
        simpa using hdr d (mem_deps hdeps d hdd))
      rw [hL] at hL'
      cases hL'
      have hread := read_clear (t := t) hst hL (mem_deps hdeps) (.inr hjr)
      have hstep' : AStep E.P (mask t (hidden L pend done)) h ao (fun t' h' => ∃ t1, RunD E L (rest.erase j) (pend.filter fun x => !(clo L L.length (depsOf o)).contains x) k t1 h' ∧ TRelLe t' (mask t1 (hidden L (pend.filter fun x => !(clo L L.length (depsOf o)).contains x) (j :: done)))) := by
        refine hstep.congr hread fun v h' h1 => ⟨_, h1, fun i => ?_⟩
        have hhid : ∀ i, i ∈ hidden L (pend.filter fun x => !(clo L L.length (depsOf o)).contains x) (j :: done) ↔ i ∈ hidden L pend done := by
          intro i
          simp only [mem_hidden, List.mem_filter]
          refine ⟨fun ⟨x, a, b, c⟩ => ⟨x, a.1, fun hm => b (List.mem_cons_of_mem _ hm), c⟩, fun ⟨x, a, b, c⟩ => ⟨x, ⟨a, ?_⟩, fun hm => ?_, c⟩⟩
          · simp only [Bool.not_eq_true', List.contains_eq_mem, decide_eq_false_iff_not]
            exact fun hm => b (clo_done hD hcl _ _ (mem_deps hdeps) x hm)
          rcases List.mem_cons.1 hm with rfl | hm
          · exact hjp a
          · exact b hm
        by_cases hi : i ∈ hidden L pend done
        · exact .inr (by rw [mask, if_pos ((hhid i).2 hi)])
        · refine .inl ?_
          simp only [mask, hhid, if_neg hi]
          cases ao.dst with
          | none => simp only [put, mask, if_neg hi]
          | some d =>
            simp only [put, upd]
            split
            · rfl
            · simp only [mask, if_neg hi]
      refine astep_goes h0 hadv hh ht hd ho hco hstep' ?_
      intro c' w' a' t' h' hadv' hh' _ ht' hd' _ ⟨t1, hrun, hle⟩
      refine hrun ops hD c0 w0 h0 c' w' a' (j :: done) todo hadv' hh' hs' (hcl.cons ho hdeps) ?_ ?_ (ht'.le hle) hd' b items cs hb hbk hk
      · intro i hi hm
        rcases List.mem_cons.1 hi with rfl | hi
        · exact (List.Nodup.mem_erase_iff hnd).1 hm |>.1 rfl
        · exact hdr i hi (List.mem_of_mem_erase hm)
      · intro i hi h1 h2
        by_cases e : i = j
        · subst e; exact List.mem_cons_self
        · refine List.mem_cons_of_mem _ ?_
          by_cases hp : i ∈ pend
          · have : i ∈ clo L L.length (depsOf o) := by
              refine Classical.byContradiction fun hn => h2 (List.mem_filter.2 ⟨hp, by simpa using hn⟩)
            exact clo_done hD hcl _ _ (mem_deps hdeps) i this
          · exact hall i hi (fun hm => h1 ((List.mem_erase_of_ne e).2 hm)) hp

theorem RunD.fin {E : Env} {L pend k t h} (hst : statOk L [] pend = true) (hpo : PendOk E.P L t h pend) (hr : Run E ⟨k, t, h⟩) : RunD E L [] pend k t h := by
  intro ops hD c0 w0 h0 c w a done todo
  induction todo generalizing c w a done with
  | nil =>
    intro hadv hh hs hcl hdr hall ht hd b items cs hb hbk hk
    refine Goes.step stepR_region_end (hr c0 w0 h0 c w a hadv hh (ht.le fun i => .inl ?_) hd b _ cs hb hbk hk)
    rw [mask, if_neg]
    intro hm
    obtain ⟨x, hx, hxd, hxs⟩ := mem_hidden.1 hm
    refine hxd (hs x ?_)
    rw [hD.size]
    simp only [DL.dst] at hxs
    cases hx' : L[x]? with
    | none => rw [hx'] at hxs; cases hxs
    | some y => exact (List.getElem?_eq_some_iff.1 hx').1
  | cons j todo ih =>
    intro hadv hh hs hcl hdr hall ht hd b items cs hb hbk hk
    have hjs := hs
    obtain ⟨hjd, ⟨o, ho, hdeps⟩, hs'⟩ := hs
    obtain ⟨ao, hL, hco, _⟩ := hD.get ho
    have hjl : j < L.length := (List.getElem?_eq_some_iff.1 hL).1
    have hjp : j ∈ pend := Classical.byContradiction fun hn => hjd (hall j hjl (by simp) hn)
    refine pend_goes hst hpo hD h0 hadv hh hjs hjp ht hd fun c' w' a' hadv' hh' ht' hd' => ?_
    exact ih c' w' a' (j :: done) hadv' hh' hs' (hcl.cons ho hdeps) (fun i _ => by simp) (fun i hi h1 h2 => List.mem_cons_of_mem _ (hall i hi h1 h2)) ht' hd' b items cs hb hbk hk

end Sx

/-
  Sx, part U: a region whose order is open and that only reads runs as if it were told.
-/
namespace Sx
open Go
set_option linter.unusedSimpArgs false
set_option linter.unusedVariables false

/-- it changes no object and calls nothing -/
def opQuiet : AOp → Bool
  | .mv _ | .pick .. | .build .. | .load .. | .bin .. | .eq .. | .eqG .. | .un .. | .convI .. | .convS _ | .b2s _ | .fld .. | .fldA .. | .idxA .. | .idxS .. | .idxG .. | .slcS .. | .slc .. | .lenS _ | .lenL _ | .capL _ | .ext .. | .nilck _ | .mm .. | .mkf .. | .cvU _ | .cvP .. | .usd _ | .mget .. | .lenM _ | .call .. => true
  | _ => false

theorem opQuiet_step {o : AOp} (hq : opQuiet o = true) {t h v h'} (hs : opStep t h o = some (v, h')) : h' = h := by
  cases o <;> simp only [opQuiet, Bool.false_eq_true] at hq <;> simp only [opStep] at hs
  all_goals
    repeat' first
      | (split at hs)
    all_goals first
      | (cases hs; rfl)
      | (simp only [Option.map_eq_some_iff] at hs; obtain ⟨_, _, hs⟩ := hs; cases hs; rfl)
      | (exact (Option.some.inj hs |> Prod.mk.inj |>.2).symm)
      | (cases hs)

/-- the operations of such a region, one behind the other -/
def execQ (P : Program) : List AOper → T → List O → (T → List O → Prop) → Prop
  | [], t, h, K => K t h
  | ⟨d, g, o⟩ :: l, t, h, K => match guardB t g with
    | some true => if isCall o = true then ∃ v, CallIs P t h o v ∧ execQ P l (put t d v) h K else (match opStep t h o with
      | some (v, h') => execQ P l (put t d v) h' K
      | none => False)
    | some false => execQ P l (put t d (.tup [])) h K
    | none => False

def quiet1 (L : DL) (n x : Nat) : Bool := match L.dst x with
  | none => true
  | some d => (List.range L.length).all fun y => (if y ≤ x then !(L.rd y).contains d else (L.deps y).contains x || !(L.rd y).contains d) && (y == x || decide (n ≤ y) || L.dst y != some d)

/-- the first so many only read, and may run when they like -/
def quietTo (L : DL) (n : Nat) : Bool := decide (n ≤ L.length) && (L.take n).all (fun x => opQuiet x.1.op) && (List.range n).all (quiet1 L n)
def quietOk (L : DL) : Bool := quietTo L L.length && statOk L [] (List.range L.length).reverse

theorem execQ_mono {P : Program} {K K' : T → List O → Prop} (hk : ∀ t h, K t h → K' t h) : ∀ {l : List AOper} {t h}, execQ P l t h K → execQ P l t h K'
  | [], _, _, h => hk _ _ h
  | ⟨d, g, o⟩ :: l, t, h, hq => by
    simp only [execQ] at hq ⊢
    revert hq
    split
    · split
      · exact fun ⟨v, h1, h2⟩ => ⟨v, h1, execQ_mono hk h2⟩
      · split
        · exact fun hq => execQ_mono hk hq
        · exact id
    · exact fun hq => execQ_mono hk hq
    · exact id

theorem PendOk.put {P : Program} {L : DL} {t h v} {d : Option Nat} : ∀ {pend : List Nat}, PendOk P L t h pend → (∀ e, d = some e → ∀ y ∈ pend, e ∉ L.rd y ∧ L.dst y ≠ some e) → PendOk P L (Sx.put t d v) h pend
  | [], _, _ => trivial
  | y :: ys, hp, hd => by
    refine ⟨?_, hp.2.put fun e he z hz => hd e he z (List.mem_cons_of_mem _ hz)⟩
    have h1 := hp.1
    cases hL : L[y]? with
    | none => trivial
    | some ods =>
      obtain ⟨o, ds⟩ := ods
      rw [hL] at h1
      have hrd : L.rd y = o.rd := by simp [DL.rd, hL]
      have hds : L.dst y = o.dst := by simp [DL.dst, hL]
      have hsame : ∀ i ∈ o.rd, t i = Sx.put t d v i := by
        intro i hi
        cases d with
        | none => rfl
        | some e =>
          have := (hd e rfl y List.mem_cons_self).1
          rw [hrd] at this
          have hne : i ≠ e := fun he => this (he ▸ hi)
          simp [Sx.put, upd, hne]
      have hdst : ∀ e', o.dst = some e' → Sx.put t d v e' = t e' := by
        intro e' he'
        cases d with
        | none => rfl
        | some e =>
          have := (hd e rfl y List.mem_cons_self).2
          rw [hds, he'] at this
          have hne : e' ≠ e := fun he => this (by rw [he])
          simp [Sx.put, upd, hne]
      have hg : guardB t o.g = guardB (Sx.put t d v) o.g := guardB_congr fun j b e => hsame j (by simp only [AOper.rd, e]; simp)
      have hso : ∀ i ∈ o.op.rd, t i = Sx.put t d v i := fun i hi => hsame i (by simp only [AOper.rd]; simp [hi])
      have hop : opStep t h o.op = opStep (Sx.put t d v) h o.op := opStep_congr hso
      simp only at h1 ⊢
      rw [← hg, ← hop]
      rcases h1 with ⟨g1, v1, g2, g3⟩ | ⟨g1, g3⟩
      · exact .inl ⟨g1, v1, g2.imp id (fun hc => hc.congr hso), fun e he => (hdst e he).trans (g3 e he)⟩
      · exact .inr ⟨g1, fun e he => (hdst e he).trans (g3 e he)⟩

theorem quiet_go {E : Env} {L : DL} {k} {m : Nat} (hq : quietTo L m = true) {rest : List Nat} (hrest : ∀ i ∈ rest, m ≤ i) (hnd : rest.Nodup) : ∀ (n x : Nat), x + n = m → ∀ {t h}, PendOk E.P L t h (List.range x).reverse →
    execQ E.P (((L.take m).drop x).map (·.1)) t h (fun t h => PendOk E.P L t h (List.range m).reverse → RunD E L rest (List.range m).reverse k t h) → RunD E L (List.range' x n ++ rest) (List.range x).reverse k t h := by
  have hq' : (m ≤ L.length ∧ (L.take m).all (fun x => opQuiet x.1.op) = true) ∧ (List.range m).all (quiet1 L m) = true := by simpa only [quietTo, Bool.and_eq_true, decide_eq_true_eq] using hq
  obtain ⟨⟨hm, hq1⟩, hq2⟩ := hq'
  have hquiet : ∀ x d, x < m → L.dst x = some d → ∀ y, y < L.length → (y ≤ x → d ∉ L.rd y) ∧ (x < y → x ∈ L.deps y ∨ d ∉ L.rd y) ∧ (y ≠ x → y < m → L.dst y ≠ some d) := by
    intro x d hx hd y hy
    have h1 := List.all_eq_true.1 hq2 x (List.mem_range.2 hx)
    simp only [quiet1, hd] at h1
    have h2 := List.all_eq_true.1 h1 y (List.mem_range.2 hy)
    simp only [Bool.and_eq_true, Bool.or_eq_true, beq_iff_eq, decide_eq_true_eq] at h2
    refine ⟨fun h => ?_, fun h => ?_, fun h h' => ?_⟩
    · have := h2.1; rw [if_pos h] at this; simpa using this
    · have := h2.1; rw [if_neg (by omega)] at this; simpa using this
    · rcases h2.2 with (h3 | h3) | h3
      · exact absurd h3 h
      · omega
      · simpa using h3
  intro n
  induction n with
  | zero =>
    intro x hx t h hp hr
    have hx' : x = m := by omega
    subst hx'
    have : ((L.take x).drop x) = [] := by simp
    rw [this] at hr
    simpa [execQ] using hr hp
  | succ n ih =>
    intro x hx t h hp hr
    have hxm : x < m := by omega
    have hxl : x < L.length := by omega
    have hL : L[x]? = some L[x] := List.getElem?_eq_getElem hxl
    have hdrop : (L.take m).drop x = L[x] :: (L.take m).drop (x + 1) := by
      rw [List.drop_eq_getElem_cons (by simp; omega)]
      simp
    rw [hdrop] at hr
    simp only [List.map_cons] at hr
    have hdst : L.dst x = L[x].1.dst := by simp [DL.dst, hL]
    have hqo : opQuiet L[x].1.op = true := List.all_eq_true.1 hq1 _ (List.mem_of_getElem? (i := x) (by simp [hxm]))
    have hrange : (x : Nat) :: (List.range x).reverse = (List.range (x + 1)).reverse := by simp [List.range_succ]
    have herase : (List.range' x (n + 1) ++ rest).erase x = List.range' (x + 1) n ++ rest := by simp [List.range'_succ]
    have main : ∀ v, (guardB t L[x].1.g = some true ∧ (opStep t h L[x].1.op = some (v, h) ∨ CallIs E.P t h L[x].1.op v) ∨ guardB t L[x].1.g = some false ∧ v = .tup []) → execQ E.P (((L.take m).drop (x + 1)).map (·.1)) (put t L[x].1.dst v) h (fun t h => PendOk E.P L t h (List.range m).reverse → RunD E L rest (List.range m).reverse k t h) → RunD E L (List.range' x (n + 1) ++ rest) (List.range x).reverse k t h := by
      intro v hv hrun
      refine RunD.float x v (by simp [List.range'_succ]) (List.nodup_append.2 ⟨List.nodup_range', hnd, fun a ha b hb => by
        have := hrest b hb
        have := List.mem_range'_1.1 ha
        omega⟩) ?_
      rw [herase, hrange, hdst]
      refine ih (x + 1) (by omega) ?_ hrun
      rw [← hrange]
      have hsame : ∀ i ∈ L[x].1.rd, t i = put t L[x].1.dst v i := by
        intro i hi
        cases hd : L[x].1.dst with
        | none => rfl
        | some d =>
          have := (hquiet x d hxm (hdst.trans hd) x hxl).1 (Nat.le_refl _)
          have hrd : L.rd x = L[x].1.rd := by simp [DL.rd, hL]
          rw [hrd] at this
          have hne : i ≠ d := fun he => this (he ▸ hi)
          simp [put, upd, hne]
      have hg : guardB t L[x].1.g = guardB (put t L[x].1.dst v) L[x].1.g := guardB_congr fun j b e => hsame j (by simp only [AOper.rd, e]; simp)
      have hso : ∀ i ∈ L[x].1.op.rd, t i = put t L[x].1.dst v i := fun i hi => hsame i (by simp only [AOper.rd]; simp [hi])
      have hop : opStep t h L[x].1.op = opStep (put t L[x].1.dst v) h L[x].1.op := opStep_congr hso
      refine ⟨?_, hp.put fun e he y hy => ?_⟩
      · rw [hL]
        simp only
        rw [← hg, ← hop]
        rcases hv with ⟨g1, g2⟩ | ⟨g1, rfl⟩
        · exact .inl ⟨g1, v, g2.imp id (fun hc => hc.congr hso), fun d hd => by simp [hd, put, upd]⟩
        · exact .inr ⟨g1, fun d hd => by simp [hd, put, upd]⟩
      · have hyx : y < x := by simpa using hy
        have := hquiet x e hxm (hdst.trans he) y (by omega)
        exact ⟨this.1 (by omega), this.2.2 (by omega) (by omega)⟩
    revert hr
    generalize L[x].1 = o at hqo main
    obtain ⟨d, g, op⟩ := o
    simp only at hqo main
    simp only [execQ]
    cases hgb : guardB t g with
    | none => intro hr; exact hr.elim
    | some b =>
      cases b with
      | false => intro hr; exact main (.tup []) (.inr ⟨hgb, rfl⟩) hr
      | true =>
        simp only
        split
        · rintro ⟨v, h1, h2⟩
          exact main v (.inl ⟨hgb, .inr h1⟩) h2
        cases hs : opStep t h op with
        | none => intro hr; exact hr.elim
        | some vh =>
          obtain ⟨v, h'⟩ := vh
          have := opQuiet_step hqo hs
          subst this
          intro hr
          exact main v (.inl ⟨hgb, .inl hs⟩) hr

theorem Run.quiet {E : Env} (hm : E.P.follows .mixedOrders = true) {L : DL} {t h k} (hq : quietOk L = true) (hr : execQ E.P (L.map (·.1)) t h (fun t h => Run E ⟨k, t, h⟩)) : Run E ⟨.code (.drawn L) :: k, t, h⟩ := by
  have hq' : quietTo L L.length = true ∧ statOk L [] (List.range L.length).reverse = true := by simpa only [quietOk, Bool.and_eq_true] using hq
  refine Run.drawn hm ?_
  have := quiet_go (E := E) (L := L) (k := k) (rest := []) hq'.1 (by simp) List.nodup_nil L.length 0 (by simp) (t := t) (h := h) trivial ?_
  · simpa [List.range_eq_range'] using this
  · simp only [List.take_length, List.drop_zero]
    exact execQ_mono (fun t h hr hp => RunD.fin hq'.2 hp hr) hr

/-- the first so many only read; the others are still to come -/
theorem Run.quietTo {E : Env} (hm : E.P.follows .mixedOrders = true) {L : DL} {t h k} (n : Nat) (hq : Sx.quietTo L n = true)
    (hr : execQ E.P ((L.take n).map (·.1)) t h (fun t h => PendOk E.P L t h (List.range n).reverse → RunD E L (List.range' n (L.length - n)) (List.range n).reverse k t h)) : Run E ⟨.code (.drawn L) :: k, t, h⟩ := by
  refine Run.drawn hm ?_
  have hn : n ≤ L.length := by
    simp only [Sx.quietTo, Bool.and_eq_true, decide_eq_true_eq] at hq
    exact hq.1.1
  have := quiet_go (E := E) (L := L) (k := k) (rest := List.range' n (L.length - n)) hq (fun i hi => (List.mem_range'_1.1 hi).1) List.nodup_range' n 0 (by simp) (t := t) (h := h) trivial (by simpa using hr)
  have e : List.range' 0 n ++ List.range' n (L.length - n) = List.range L.length := by
    rw [List.range_eq_range']
    have := List.range'_append_1 (s := 0) (m := n) (n := L.length - n)
    rw [Nat.zero_add] at this
    rw [this]; congr 1; omega
  rw [e] at this
  simpa using this

/-- the next of those that come one behind the other; what lies behind it is done -/
theorem RunD.chain {E : Env} {L y ys pend k t h} (hc : (statOk L (y :: ys) pend && decide (y < L.length) && decide (y :: ys).Nodup && pend.all (fun x => !(y :: ys).contains x) && ys.all (fun z => (L.deps z).contains y)) = true) (hpo : PendOk E.P L t h pend)
    {o ds} (ho : L[y]? = some (o, ds)) (hr : AStep E.P t h o (fun t' h' => RunD E L ys (pend.filter fun x => !(clo L L.length ds).contains x) k t' h')) : RunD E L (y :: ys) pend k t h := by
  simp only [Bool.and_eq_true, decide_eq_true_eq] at hc
  obtain ⟨⟨⟨⟨h1, h2⟩, h3⟩, h4⟩, h5⟩ := hc
  refine RunD.next' h1 (by simp [h2]) h3 h4 hpo fun z hz hdz => ?_
  rcases List.mem_cons.1 hz with rfl | hz
  · refine ⟨o, ds, ho, ?_⟩
    simpa [List.erase_cons_head] using hr
  · have h6 : y ∈ L.deps z := by simpa using List.all_eq_true.1 h5 z hz
    have := List.all_eq_true.1 hdz y h6
    simp at this

end Sx
