/-
  Sx, part O: running; steps, calls, loops.
-/
import Derived.Test.YticecideodkcmaaSxN
namespace Sx
open Go
set_option linter.unusedSimpArgs false
set_option linter.unusedVariables false

/-- from here on the function comes to its end -/
def Goes (P : Program) (b : Frame) (R : Ending → World → Prop) (k : List Item) (cs : List Frame) (a : Act) (w : World) : Prop :=
  ∃ e w' fr, R e w' ∧ Comes P (lone (b.at a k) cs w) (lone fr cs w') e ∧ fr.fn = b.fn ∧ fr.leaving P w' e

theorem Goes.step {P b R k k' cs a a' w w'} (hs : step P (lone (b.at a k) cs w) = .next (lone (b.at a' k') cs w')) (h : Goes P b R k' cs a' w') : Goes P b R k cs a w := by
  obtain ⟨e, w2, fr, h1, h2, h3, h4⟩ := h
  exact ⟨e, w2, fr, h1, Comes.of_steps (.one hs) h2, h3, h4⟩

theorem Goes.steps {P b R k k' cs a a' w w'} (hs : Steps P (lone (b.at a k) cs w) (lone (b.at a' k') cs w')) (h : Goes P b R k' cs a' w') : Goes P b R k cs a w := by
  obtain ⟨e, w2, fr, h1, h2, h3, h4⟩ := h
  exact ⟨e, w2, fr, h1, Comes.of_steps hs h2, h3, h4⟩

/-- what a call comes to -/
def TriR (H0 : List O) (c0 : Ctx) (w0 : World) (Post : V → List O → Prop) (e : Ending) (w' : World) : Prop :=
  ∃ v H' c' cv, Post v H' ∧ e = .returned cv ∧ VRel c'.ro c'.m v cv ∧ HRel c' w' H' ∧ Adv c0 w0 H0 c' w' H'

def Callable (P : Program) (f : FuncId) : Prop := ∃ fn, P.funcs[f]? = some fn ∧ fn.body.isSome = true ∧ (fn.name == "runtime.NumGoroutine") = false

/-- THE CONTRACT -/
def Tri (P : Program) (f : FuncId) (args : List V) (H : List O) (Post : V → List O → Prop) : Prop :=
  Callable P f ∧ ∀ c w cargs, HRel c w H → VRels c.ro c.m args cargs → Calls P f cargs w (TriR H c w Post)

theorem Tri.mono {P f args H Post Post'} (h : Tri P f args H Post) (hp : ∀ v H', Post v H' → Post' v H') : Tri P f args H Post' :=
  ⟨h.1, fun c w cargs hh hv => (h.2 c w cargs hh hv).mono fun e w' ⟨v, H', c', cv, h1, h2⟩ => ⟨v, H', c', cv, hp _ _ h1, h2⟩⟩

structure Env where
  P : Program
  f : FuncId
  N : Nat
  H0 : List O
  Post : V → List O → Prop

inductive IRel (P : Program) (N : Nat) : AItem → Item → Prop
  | code {c ac} (h : cCode P N c = some ac) : IRel P N (.code ac) (.code c)
  | ops {l ops todo} (h : todo.map (fun i => (ops[i]?).bind (cOper P N ops)) = l.map some) : IRel P N (.ops l) (.inRegion ops todo)
  | endB {id} : IRel P N (.endB id) (.inBlock id)
  | inLoop {c ac} (h : cCode P N c = some ac) : IRel P N (.inLoop ac) (.inLoop c)

inductive KRel (P : Program) (N : Nat) : List AItem → List Item → Prop
  | nil : KRel P N [] []
  | cons {x y k l} (h : IRel P N x y) (t : KRel P N k l) : KRel P N (x :: k) (y :: l)

def Run (E : Env) (cfg : Cfg) : Prop :=
  ∀ c0 w0, HRel c0 w0 E.H0 → ∀ c w a, Adv c0 w0 E.H0 c w cfg.h → HRel c w cfg.h → TRel E.N c cfg.t a → a.defers = [] →
    ∀ (b : Frame) items cs, b.fn = E.f → b.kind = .normal → KRel E.P E.N cfg.k items → Goes E.P b (TriR E.H0 c0 w0 E.Post) items cs a w

theorem unwind_rel {P N id} : ∀ {k : List AItem} {items : List Item} {k1 : List AItem}, unwind id k = some k1 → KRel P N k items → ∃ items1, exitTo id items = some items1 ∧ KRel P N k1 items1
  | [], items, k1, h, _ => by simp [unwind] at h
  | x :: k, y :: items, k1, h, .cons hx hk => by
    cases hx with
    | code hc => simp only [unwind] at h; simp only [exitTo]; exact unwind_rel h hk
    | ops hc => simp only [unwind] at h; simp only [exitTo]; exact unwind_rel h hk
    | inLoop hc => simp only [unwind] at h; simp only [exitTo]; exact unwind_rel h hk
    | @endB j =>
      simp only [unwind] at h
      by_cases e : j = id
      · simp only [e, if_true] at h
        cases h
        exact ⟨items, by simp [exitTo, e], hk⟩
      · simp only [if_neg e] at h
        obtain ⟨i1, h1, h2⟩ := unwind_rel h hk
        exact ⟨i1, by simp [exitTo, e, h1], h2⟩

def GuardOk (N : Nat) (ops : Array Oper) (o : Oper) : Option (Nat × Bool) → Prop
  | none => o.guard = none
  | some (j, want) => j < N ∧ ∃ i, o.guard = some (i, want) ∧ (ops[i]?).bind (·.dst) = some j

theorem cOper_spec {P N ops o d g ao} (h : cOper P N ops o = some ⟨d, g, ao⟩) : cOp P N o.op = some ao ∧ o.dst = d ∧ (∀ x, d = some x → x < N) ∧ GuardOk N ops o g := by
  unfold cOper at h
  simp only [Option.bind_eq_bind, Option.pure_def] at h
  cases hg : o.guard with
  | none =>
    cases hd : o.dst with
    | none =>
      cases ho : cOp P N o.op with
      | none => simp [hg, hd, ho] at h
      | some a => simp [hg, hd, ho] at h; obtain ⟨rfl, rfl, rfl⟩ := h; exact ⟨rfl, rfl, (fun x h => by cases h), hg⟩
    | some x =>
      by_cases hx : x < N
      · cases ho : cOp P N o.op with
        | none => simp [hg, hd, ho, hx] at h
        | some a => simp [hg, hd, ho, hx] at h; obtain ⟨rfl, rfl, rfl⟩ := h; exact ⟨rfl, rfl, (fun y h => by cases h; exact hx), hg⟩
      · simp [hg, hd, hx] at h
  | some jb =>
    obtain ⟨i, want⟩ := jb
    cases hj : (ops[i]?).bind (·.dst) with
    | none => simp [hg, hj] at h
    | some j =>
      by_cases hjN : j < N
      · cases hd : o.dst with
        | none =>
          cases ho : cOp P N o.op with
          | none => simp [hg, hd, ho, hj, hjN] at h
          | some a => simp [hg, hd, ho, hj, hjN] at h; obtain ⟨rfl, rfl, rfl⟩ := h; exact ⟨rfl, rfl, (fun x h => by cases h), hjN, i, hg, hj⟩
        | some x =>
          by_cases hx : x < N
          · cases ho : cOp P N o.op with
            | none => simp [hg, hd, ho, hx, hj, hjN] at h
            | some a => simp [hg, hd, ho, hx, hj, hjN] at h; obtain ⟨rfl, rfl, rfl⟩ := h; exact ⟨rfl, rfl, (fun y h => by cases h; exact hx), hjN, i, hg, hj⟩
          · simp [hg, hd, hx, hj, hjN] at h
      · simp [hg, hj, hjN] at h

theorem wanted_of {N c t a ops} {o : Oper} (ht : TRel N c t a) {g : Option (Nat × Bool)} (hg : GuardOk N ops o g) :
    (g = none → Region.wanted o (yielded ops a.tmps) = true) ∧ (∀ j want v, g = some (j, want) → t j = .bool v → Region.wanted o (yielded ops a.tmps) = decide (v = want)) ∧
    (∀ j want, g = some (j, want) → t j = .tup [] → Region.wanted o (yielded ops a.tmps) = false) := by
  refine ⟨fun h => ?_, fun j want v h hv => ?_, fun j want h hv => ?_⟩
  · subst h; simp only [GuardOk] at hg; simp [Region.wanted, hg]
  · subst h
    obtain ⟨hj, i, h1, h2⟩ := hg
    have := ht.rel j
    rw [hv] at this
    have hb := this.bool_inv
    have hlt : j < a.tmps.size := by rw [ht.size]; exact hj
    have hb' : a.tmps[j]? = some (.bool v) := by
      rw [Array.getD_eq_getD_getElem?, Array.getElem?_eq_getElem hlt] at hb
      rw [Array.getElem?_eq_getElem hlt]; simpa using hb
    simp only [Region.wanted, h1, yielded, h2, Option.bind_some, hb']
    by_cases e : v = want
    · subst e; simp
    · simp [e]
  · subst h
    obtain ⟨hj, i, h1, h2⟩ := hg
    have := ht.rel j
    rw [hv] at this
    have hlt : j < a.tmps.size := by rw [ht.size]; exact hj
    rw [Array.getD_eq_getD_getElem?, Array.getElem?_eq_getElem hlt, Option.getD_some] at this
    have hb' : ∃ cs, a.tmps[j]? = some (.tuple cs) := by
      rw [Array.getElem?_eq_getElem hlt]
      generalize a.tmps[j] = x at this
      cases this
      exact ⟨_, rfl⟩
    obtain ⟨cs, hb'⟩ := hb'
    simp [Region.wanted, h1, yielded, h2, hb']

theorem region_finish {b : Frame} {a : Act} {ops : Array Oper} {i : Nat} {rest : List Nat} {k : List Item} {o : Oper} (ho : ops[i]? = some o) (v : Value) :
    (b.at a (.inRegion ops (i :: rest) :: k)).finish v = b.at (a.put o.dst v) (.inRegion ops rest :: k) := by
  rw [Frame.finish_at, ho]; rfl

theorem ops_cons {P N ops} {i : Nat} {todo : List Nat} {x : AOper} {l : List AOper} (h : (i :: todo).map (fun i => (ops[i]?).bind (cOper P N ops)) = (x :: l).map some) :
    (∃ o, ops[i]? = some o ∧ cOper P N ops o = some x) ∧ todo.map (fun i => (ops[i]?).bind (cOper P N ops)) = l.map some := by
  simp only [List.map_cons, List.cons.injEq] at h
  refine ⟨?_, h.2⟩
  cases ho : ops[i]? with
  | none => simp [ho] at h
  | some o => exact ⟨o, rfl, by simpa [ho] using h.1⟩

theorem op_goes {E : Env} {c0 w0} (h0 : HRel c0 w0 E.H0) {c w a t h} (hadv : Adv c0 w0 E.H0 c w h) (hh : HRel c w h) (ht : TRel E.N c t a) (hd : a.defers = []) {b : Frame} {cs items ops i todo l k d g ao} (hb : b.fn = E.f) (hbk : b.kind = .normal)
    {o : Oper} (ho : ops[i]? = some o) (hco : cOper E.P E.N ops o = some ⟨d, g, ao⟩) (hk : KRel E.P E.N (.ops l :: k) (.inRegion ops todo :: items)) (hw : Region.wanted o (yielded ops a.tmps) = true) {v h'} (hs : opStep t h ao = some (v, h'))
    (hrun : Run E ⟨.ops l :: k, put t d v, h'⟩) : Goes E.P b (TriR E.H0 c0 w0 E.Post) (.inRegion ops (i :: todo) :: items) cs a w := by
  obtain ⟨hcp, hdst, hdN, hgd⟩ := cOper_spec hco
  obtain ⟨r, w', c', h1, h2, h3, h4⟩ := op_sound (P := E.P) hh ht hcp hs
  have hg := stepG_op (P := E.P) (b := b) (k := items) (cs := cs) (w := w) (rest := todo) ho hw
  have hfin := fun v => region_finish (b := b) (a := a) (rest := todo) (k := items) ho v
  have ht' := ht.mono h4.m h4.ro
  rcases h2 with ⟨cv, rfl, hv⟩ | ⟨rfl, rfl⟩
  · refine Goes.step (a' := a.put o.dst cv) (k' := .inRegion ops todo :: items) (w' := w') (step_lone_go ?_) ?_
    · rw [hg, ← hfin]; simp [stepG.apply, h1]
    · refine hrun c0 w0 h0 c' w' _ (hadv.trans h0 h4) h3 (by rw [hdst]; exact ht'.put d hdN hv) ?_ b _ cs hb hbk hk
      cases o.dst <;> exact hd
  · refine Goes.step (a' := a.put o.dst undef) (k' := .inRegion ops todo :: items) (w' := w') (step_lone_go ?_) ?_
    · rw [hg, ← hfin]; simp [stepG.apply, h1]
    · refine hrun c0 w0 h0 c' w' _ (hadv.trans h0 h4) h3 (by rw [hdst]; exact ht'.put d hdN (.any ..)) ?_ b _ cs hb hbk hk
      cases o.dst <;> exact hd

theorem range_map {α} (l : List α) : (List.range l.length).map (fun i => l[i]?) = l.map some := by
  refine List.ext_getElem (by simp) fun i h1 h2 => ?_
  simp at h2
  simp [h2]

theorem region_rel {P N} {ops : Array Oper} {l : List AOper} (h : ops.toList.mapM (cOper P N ops) = some l) : (List.range ops.size).map (fun i => (ops[i]?).bind (cOper P N ops)) = l.map some := by
  obtain ⟨h1, h2⟩ := mapM_some _ _ _ h
  refine List.ext_getElem (by simpa using h1) fun i a b => ?_
  have hi : i < ops.size := by simpa using a
  have := h2 i (by simpa using hi) (by simpa using b)
  simp [hi]
  simpa using this

section inv
variable {P : Program} {N : Nat} {c : Code}
theorem cCode_skip (h : cCode P N c = some .skip) : c = .skip := by
  cases c <;> try (simp only [cCode] at h; first | rfl | (cases h; done) | (repeat (first | (cases h; done) | split at h)) <;> cases h)
  rename_i id ops d; cases d <;> simp only [cCode] at h <;> split at h <;> cases h
theorem cCode_seq {a b} (h : cCode P N c = some (.seq a b)) : ∃ x y, c = .seq x y ∧ cCode P N x = some a ∧ cCode P N y = some b := by
  cases c
  case region id ops d => cases d <;> simp only [cCode] at h <;> split at h <;> cases h
  all_goals (simp only [cCode] at h; first | (cases h; done) | (repeat (first | (cases h; done) | split at h)) <;> cases h)
  exact ⟨_, _, rfl, by assumption, by assumption⟩
theorem cCode_region {l} (h : cCode P N c = some (.region l)) : ∃ id ops, c = .region id ops false ∧ ops.toList.mapM (cOper P N ops) = some l := by
  cases c
  case region id ops d =>
    cases d <;> simp only [cCode] at h <;> split at h <;> cases h
    exact ⟨_, _, rfl, by assumption⟩
  all_goals (simp only [cCode] at h; first | (cases h; done) | (repeat (first | (cases h; done) | split at h)) <;> cases h)
theorem cCode_drawn {l} (h : cCode P N c = some (.drawn l)) : ∃ id ops, c = .region id ops true ∧ ops.toList.zipIdx.mapM (cDraw1 P N ops) = some l := by
  cases c
  case region id ops d =>
    cases d <;> simp only [cCode] at h <;> split at h <;> cases h
    exact ⟨_, _, rfl, by assumption⟩
  all_goals (simp only [cCode] at h; first | (cases h; done) | (repeat (first | (cases h; done) | split at h)) <;> cases h)
theorem cCode_cond {o a b} (h : cCode P N c = some (.cond o a b)) : ∃ o' x y, c = .cond o' x y ∧ cOpd N o' = some o ∧ cCode P N x = some a ∧ cCode P N y = some b := by
  cases c
  case region id ops d => cases d <;> simp only [cCode] at h <;> split at h <;> cases h
  all_goals (simp only [cCode] at h; first | (cases h; done) | (repeat (first | (cases h; done) | split at h)) <;> cases h)
  exact ⟨_, _, _, rfl, by assumption, by assumption, by assumption⟩
theorem cCode_block {id a} (h : cCode P N c = some (.block id a)) : ∃ x, c = .block id x ∧ cCode P N x = some a := by
  cases c
  case region id ops d => cases d <;> simp only [cCode] at h <;> split at h <;> cases h
  all_goals (simp only [cCode] at h; first | (cases h; done) | (repeat (first | (cases h; done) | split at h)) <;> cases h)
  exact ⟨_, rfl, by assumption⟩
theorem cCode_loop {a} (h : cCode P N c = some (.loop a)) : ∃ x, c = .loop x ∧ cCode P N x = some a := by
  cases c
  case region id ops d => cases d <;> simp only [cCode] at h <;> split at h <;> cases h
  all_goals (simp only [cCode] at h; first | (cases h; done) | (repeat (first | (cases h; done) | split at h)) <;> cases h)
  exact ⟨_, rfl, by assumption⟩
theorem cCode_exit {id} (h : cCode P N c = some (.exit id)) : c = .exit id := by
  cases c
  case region id ops d => cases d <;> simp only [cCode] at h <;> split at h <;> cases h
  all_goals (simp only [cCode] at h; first | (cases h; rfl) | (cases h; done) | (repeat (first | (cases h; done) | split at h)) <;> cases h)
theorem cCode_ret (h : cCode P N c = some .ret) : c = .ret := by
  cases c
  case region id ops d => cases d <;> simp only [cCode] at h <;> split at h <;> cases h
  all_goals (simp only [cCode] at h; first | rfl | (cases h; done) | (repeat (first | (cases h; done) | split at h)) <;> cases h)
end inv

theorem opBr_run {E : Env} {c0 w0} (h0 : HRel c0 w0 E.H0) {c w a t h} (hadv : Adv c0 w0 E.H0 c w h) (hh : HRel c w h) (ht : TRel E.N c t a) (hd : a.defers = []) {b : Frame} {cs items ops i todo l k d g ao} (hb : b.fn = E.f) (hbk : b.kind = .normal)
    {o : Oper} (ho : ops[i]? = some o) (hco : cOper E.P E.N ops o = some ⟨d, g, ao⟩) (hl : todo.map (fun i => (ops[i]?).bind (cOper E.P E.N ops)) = l.map some) (hk : KRel E.P E.N k items) (hw : Region.wanted o (yielded ops a.tmps) = true) {c'}
    (hs : opBr t h d ao l k = .one c') (hrun : Run E c') : Goes E.P b (TriR E.H0 c0 w0 E.Post) (.inRegion ops (i :: todo) :: items) cs a w := by
  unfold opBr at hs
  split at hs <;> cases hs
  rename_i v h' hop
  exact op_goes h0 hadv hh ht hd hb hbk ho hco (.cons (.ops hl) hk) hw hop hrun

/-- what a step leaves to show -/
def Br.ok (E : Env) (cfg : Cfg) : Br → Prop
  | .one c => Run E c
  | .ite p a b => (p = true → (match a with | .one c => Run E c | _ => Run E cfg)) ∧ (p = false → (match b with | .one c => Run E c | _ => Run E cfg))
  | .stop => Run E cfg

theorem Run.step {E : Env} {cfg : Cfg} (hr : (step1 cfg).ok E cfg) : Run E cfg := by
  intro c0 w0 h0 c w a hadv hh ht hd b items cs hb hbk hk
  obtain ⟨k, t, h⟩ := cfg
  simp only at hadv hh ht hk
  have hstop : Run E ⟨k, t, h⟩ → Goes E.P b (TriR E.H0 c0 w0 E.Post) items cs a w := fun hr => hr c0 w0 h0 c w a hadv hh ht hd b items cs hb hbk hk
  unfold step1 at hr
  split at hr
  · rename_i k' t' h' heq; cases heq
    cases hk with | cons hx hk => cases hx with | code hc =>
    cases cCode_skip hc
    exact Goes.step step_skip (hr c0 w0 h0 c w a hadv hh ht hd b _ cs hb hbk hk)
  · rename_i x y k' t' h' heq; cases heq
    cases hk with | cons hx hk => cases hx with | code hc =>
    obtain ⟨p, q, rfl, h1, h2⟩ := cCode_seq hc
    exact Goes.step step_seq (hr c0 w0 h0 c w a hadv hh ht hd b _ cs hb hbk (.cons (.code h1) (.cons (.code h2) hk)))
  · rename_i l k' t' h' heq; cases heq
    cases hk with | cons hx hk => cases hx with | code hc =>
    obtain ⟨id, ops, rfl, h1⟩ := cCode_region hc
    exact Goes.step step_region (hr c0 w0 h0 c w a hadv hh ht hd b _ cs hb hbk (.cons (.ops (region_rel h1)) hk))
  · rename_i id x k' t' h' heq; cases heq
    cases hk with | cons hx hk => cases hx with | code hc =>
    obtain ⟨p, rfl, h1⟩ := cCode_block hc
    exact Goes.step step_block (hr c0 w0 h0 c w a hadv hh ht hd b _ cs hb hbk (.cons (.code h1) (.cons .endB hk)))
  · rename_i id k' t' h' heq; cases heq
    split at hr
    · rename_i k1 hu
      cases hk with | cons hx hk => cases hx with | code hc =>
      cases cCode_exit hc
      obtain ⟨i1, h1, h2⟩ := unwind_rel hu hk
      exact Goes.step (step_exit h1) (hr c0 w0 h0 c w a hadv hh ht hd b _ cs hb hbk h2)
    · exact hstop hr
  · rename_i o x y k' t' h' heq; cases heq
    split at hr
    · rename_i v hv
      cases hk with | cons hx hk => cases hx with | code hc =>
      obtain ⟨o', p, q, rfl, h1, h2, h3⟩ := cCode_cond hc
      have r1 := opd_rel ht h1
      rw [hv] at r1
      cases v
      · exact Goes.step (step_cond r1.bool_inv) (hr.2 rfl c0 w0 h0 c w a hadv hh ht hd b _ cs hb hbk (.cons (.code (by simpa using h3)) hk))
      · exact Goes.step (step_cond r1.bool_inv) (hr.1 rfl c0 w0 h0 c w a hadv hh ht hd b _ cs hb hbk (.cons (.code (by simpa using h2)) hk))
    · exact hstop hr
  · rename_i id k' t' h' heq; cases heq
    cases hk with | cons hx hk => cases hx with | endB =>
    exact Goes.step step_inBlock (hr c0 w0 h0 c w a hadv hh ht hd b _ cs hb hbk hk)
  · rename_i k' t' h' heq; cases heq
    cases hk with | cons hx hk => cases hx with | @ops _ ops todo hl =>
    have : todo = [] := by cases todo with | nil => rfl | cons x xs => simp at hl
    subst this
    exact Goes.step step_region_end (hr c0 w0 h0 c w a hadv hh ht hd b _ cs hb hbk hk)
  · rename_i d ao l k' t' h' heq; cases heq
    cases hbr : opBr t h d ao l k' with
    | one c' =>
      rw [hbr] at hr
      cases hk with | cons hx hk => cases hx with | @ops _ ops todo hl =>
      cases todo with
      | nil => simp at hl
      | cons i todo =>
        obtain ⟨⟨o, ho, hco⟩, hl'⟩ := ops_cons hl
        obtain ⟨_, hdst, hdN, hgd⟩ := cOper_spec hco
        exact opBr_run h0 hadv hh ht hd hb hbk ho hco hl' hk ((wanted_of ht hgd).1 rfl) hbr hr
    | ite p x y => unfold opBr at hbr; split at hbr <;> cases hbr
    | stop => rw [hbr] at hr; exact hstop hr
  · rename_i d j want ao l k' t' h' heq; cases heq
    split at hr
    · rename_i v hv
      by_cases hvw : (v == want) = true
      · have hr1 := hr.1 hvw
        cases hbr : opBr t h d ao l k' with
        | one c' =>
          rw [hbr] at hr1
          cases hk with | cons hx hk => cases hx with | @ops _ ops todo hl =>
          cases todo with
          | nil => simp at hl
          | cons i todo =>
            obtain ⟨⟨o, ho, hco⟩, hl'⟩ := ops_cons hl
            obtain ⟨_, hdst, hdN, hgd⟩ := cOper_spec hco
            exact opBr_run h0 hadv hh ht hd hb hbk ho hco hl' hk (by rw [(wanted_of ht hgd).2.1 j want v rfl hv]; simpa using hvw) hbr hr1
        | ite p x y => unfold opBr at hbr; split at hbr <;> cases hbr
        | stop => rw [hbr] at hr1; exact hstop hr1
      · have hr1 := hr.2 (by simpa using hvw)
        cases hk with | cons hx hk => cases hx with | @ops _ ops todo hl =>
        cases todo with
        | nil => simp at hl
        | cons i todo =>
          obtain ⟨⟨o, ho, hco⟩, hl'⟩ := ops_cons hl
          obtain ⟨_, hdst, hdN, hgd⟩ := cOper_spec hco
          have hnw : Region.wanted o (yielded ops a.tmps) = false := by rw [(wanted_of ht hgd).2.1 j want v rfl hv]; simpa using hvw
          refine Goes.step (step_op_skip (by simp [ho, hnw])) (hr1 c0 w0 h0 c w _ hadv hh ?_ ?_ b _ cs hb hbk (.cons (.ops hl') hk))
          · simp only [ho, Option.bind_some, hdst]
            exact ht.put d hdN (.tup _ _ _ rfl fun i h => by simp at h)
          · simp only [ho, Option.bind_some]; cases o.dst <;> exact hd
    · rename_i hv
      cases hk with | cons hx hk => cases hx with | @ops _ ops todo hl =>
      cases todo with
      | nil => simp at hl
      | cons i todo =>
        obtain ⟨⟨o, ho, hco⟩, hl'⟩ := ops_cons hl
        obtain ⟨_, hdst, hdN, hgd⟩ := cOper_spec hco
        have hnw : Region.wanted o (yielded ops a.tmps) = false := (wanted_of ht hgd).2.2 j want rfl hv
        refine Goes.step (step_op_skip (by simp [ho, hnw])) (hr c0 w0 h0 c w _ hadv hh ?_ ?_ b _ cs hb hbk (.cons (.ops hl') hk))
        · simp only [ho, Option.bind_some, hdst]
          exact ht.put d hdN (.tup _ _ _ rfl fun i h => by simp at h)
        · simp only [ho, Option.bind_some]; cases o.dst <;> exact hd
    · exact hstop hr
  · exact hstop hr

theorem Run.exec {E : Env} (n : Nat) : ∀ {cfg : Cfg}, Run E (Sx.exec n cfg) → Run E cfg := by
  induction n with
  | zero => intro cfg h; exact h
  | succ n ih =>
    intro cfg h
    refine Run.step ?_
    simp only [Sx.exec] at h
    split at h
    · rename_i c' hs; rw [hs]; exact ih h
    · rename_i p x y hs
      rw [hs]
      refine ⟨fun hp => ?_, fun hp => ?_⟩
      · rw [if_pos hp] at h
        split at h
        · exact ih h
        · rename_i hne; cases x <;> first | exact h | (exact absurd rfl (hne _))
      · rw [if_neg (by simp [hp])] at h
        split at h
        · exact ih h
        · rename_i hne; cases y <;> first | exact h | (exact absurd rfl (hne _))
    · rename_i hs; rw [hs]; exact h

theorem Run.ite {E : Env} {p : Prop} [Decidable p] {a b : Cfg} (h1 : p → Run E a) (h2 : ¬ p → Run E b) : Run E (if p then a else b) := by
  split
  · exact h1 (by assumption)
  · exact h2 (by assumption)

end Sx
