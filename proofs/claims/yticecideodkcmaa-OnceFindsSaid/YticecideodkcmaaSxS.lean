/-
  Sx, part S: a region whose order is open.
-/
import Derived.Test.YticecideodkcmaaSxR
import Derived.Eval
namespace Sx
open Go
set_option linter.unusedSimpArgs false
set_option linter.unusedVariables false

/-! ### which variables an operation reads -/

def Opd.rd : Opd → List Nat
  | .t i => [i]
  | .c _ => []

def ordO : Option Opd → List Nat
  | none => []
  | some x => x.rd

def AOp.rd : AOp → List Nat
  | .mv x | .box x | .load x _ | .un _ x | .convI _ x | .convS x | .b2s x | .fld x _ _ | .fldA x _ | .lenS x | .lenL x | .clear x _ | .ext x _ | .nilck x | .cvU x | .cvP x _ _ | .usd x => x.rd
  | .pick c a b => c.rd ++ a.rd ++ b.rd
  | .alloc _ | .allocT .. => []
  | .build _ ps => ps.flatMap fun p => p.2.2.rd
  | .bslice _ _ _ ps => ps.flatMap fun p => p.2.rd
  | .store a x _ | .bin _ a x | .eq _ _ a x | .eqG _ _ a x | .idxA a x _ _ | .idxS a x | .idxG a x _ _ _ | .append a x _ _ _ | .copy a x _ | .mks a x _ _ | .appendB a x _ _ | .ustr a x _ => a.rd ++ x.rd
  | .slcS x lo hi | .slcA x lo hi _ _ => x.rd ++ ordO lo ++ ordO hi
  | .slc x lo hi mx _ => x.rd ++ ordO lo ++ ordO hi ++ ordO mx
  | .mkf _ cs => cs.flatMap Opd.rd
  | .mm _ xs => xs.flatMap Opd.rd
  | .call f xs => f.rd ++ xs.flatMap Opd.rd

def AOper.rd (o : AOper) : List Nat := o.op.rd ++ (match o.g with | none => [] | some (j, _) => [j])

theorem ev_congr {t t' : T} {x : Opd} (h : ∀ i ∈ x.rd, t i = t' i) : x.ev t = x.ev t' := by
  cases x with
  | t i => exact h i (by simp [Opd.rd])
  | c v => rfl

theorem evs_congr {t t' : T} : ∀ {xs : List Opd}, (∀ i ∈ xs.flatMap Opd.rd, t i = t' i) → xs.map (Opd.ev t) = xs.map (Opd.ev t')
  | [], _ => rfl
  | x :: xs, h => by
    simp only [List.flatMap_cons, List.mem_append] at h
    simp only [List.map_cons, ev_congr (fun i hi => h i (.inl hi)), evs_congr (fun i hi => h i (.inr hi))]

theorem fillAt_congr {t t' : T} : ∀ {ps : List (Nat × Nat × Opd)} {cs : List V}, (∀ i ∈ ps.flatMap (fun p => p.2.2.rd), t i = t' i) → fillAt t cs ps = fillAt t' cs ps
  | [], cs, _ => rfl
  | (a, b, x) :: ps, cs, h => by
    simp only [List.flatMap_cons, List.mem_append] at h
    simp only [fillAt, ev_congr (fun i hi => h i (.inl hi)), fillAt_congr (fun i hi => h i (.inr hi))]

theorem fillEl_congr {t t' : T} {n : Nat} : ∀ {ps : List (Nat × Opd)} {cs : List (List V)}, (∀ i ∈ ps.flatMap (fun p => p.2.rd), t i = t' i) → fillEl t n cs ps = fillEl t' n cs ps
  | [], cs, _ => rfl
  | (a, x) :: ps, cs, h => by
    simp only [List.flatMap_cons, List.mem_append] at h
    simp only [fillEl, ev_congr (fun i hi => h i (.inl hi)), fillEl_congr (fun i hi => h i (.inr hi))]

theorem bound1_congr {t t' : T} {a b : Nat} {x : Option Opd} (h : ∀ i ∈ ordO x, t i = t' i) : bound1 t a b x = bound1 t' a b x := by
  cases x with
  | none => rfl
  | some x => simp only [bound1, ev_congr h]

theorem bounds_congr {t t' : T} {n : Nat} {lo hi : Option Opd} (h : ∀ i ∈ ordO lo ++ ordO hi, t i = t' i) : bounds t n lo hi = bounds t' n lo hi := by
  simp only [List.mem_append] at h
  simp only [bounds, bound1_congr (fun i hi => h i (.inr hi)), bound1_congr (fun i hi => h i (.inl hi))]

theorem opStep_congr {t t' : T} {h : List O} {o : AOp} (hr : ∀ i ∈ o.rd, t i = t' i) : opStep t h o = opStep t' h o := by
  cases o <;> simp only [AOp.rd, List.mem_append] at hr <;> simp only [opStep]
  case pick c a b => rw [ev_congr (fun i hi => hr i (.inl (.inl hi))), ev_congr (x := a) (fun i hi => hr i (.inl (.inr hi))), ev_congr (x := b) (fun i hi => hr i (.inr hi))]
  case build z ps => rw [fillAt_congr hr]
  case bslice a b z ps => rw [fillEl_congr hr]
  case slcS x lo hi => simp only [ev_congr (x := x) (fun i hi => hr i (.inl (.inl hi))), bounds_congr (lo := lo) (hi := hi) (fun i hj => hr i (by simp only [List.mem_append] at hj; rcases hj with h | h; exact .inl (.inr h); exact .inr h))]
  case slcA x lo hi n s => simp only [ev_congr (x := x) (fun i hi => hr i (.inl (.inl hi))), bounds_congr (lo := lo) (hi := hi) (fun i hj => hr i (by simp only [List.mem_append] at hj; rcases hj with h | h; exact .inl (.inr h); exact .inr h))]
  case slc x lo hi mx s =>
    simp only [ev_congr (x := x) (fun i hi => hr i (.inl (.inl (.inl hi)))), bounds_congr (lo := lo) (hi := hi) (fun i hj => hr i (by simp only [List.mem_append] at hj; rcases hj with h | h; exact .inl (.inl (.inr h)); exact .inl (.inr h)))]
  case mkf f cs => rw [evs_congr hr]
  case mm m xs => rw [evs_congr hr]
  all_goals first
    | rfl
    | (rw [ev_congr hr])
    | (rw [ev_congr (fun i hi => hr i (.inl hi)), ev_congr (fun i hi => hr i (.inr hi))])
    | (simp only [ev_congr hr])
    | (simp only [ev_congr (fun i hi => hr i (.inl hi)), ev_congr (fun i hi => hr i (.inr hi))])

/-! ### one operation, whatever it is -/

def AStep (P : Program) (t : T) (h : List O) (o : AOper) (K : T → List O → Prop) : Prop :=
  (guardB t o.g = some false ∧ K (put t o.dst (.tup [])) h) ∨
  (guardB t o.g = some true ∧ ((∃ v h', opStep t h o.op = some (v, h') ∧ K (put t o.dst v) h') ∨
    (∃ fo args f caps Q, o.op = .call fo args ∧ fo.ev t = .fn f caps ∧ Tri P f (args.map (Opd.ev t) ++ caps) h Q ∧ ∀ v h', Q v h' → K (put t o.dst v) h')))

theorem guard_wanted {N c t a ops} {o : Oper} (ht : TRel N c t a) {g : Option (Nat × Bool)} (hg : GuardOk N ops o g) {b : Bool} (hb : guardB t g = some b) : Region.wanted o (yielded ops a.tmps) = b := by
  obtain ⟨w1, w2⟩ := wanted_of ht hg
  cases g with
  | none => simp [guardB] at hb; subst hb; exact w1 rfl
  | some jw =>
    obtain ⟨j, want⟩ := jw
    simp only [guardB] at hb
    split at hb
    · rename_i v hv
      cases hb
      rw [w2.1 j want v rfl hv]
      cases v <;> cases want <;> rfl
    · rename_i hv
      cases hb
      exact w2.2 j want rfl hv
    · cases hb

theorem astep_goes {P : Program} {N : Nat} {c0 w0 H0} (h0 : HRel c0 w0 H0) {c w a t h} (hadv : Adv c0 w0 H0 c w h) (hh : HRel c w h) (ht : TRel N c t a) (hd : a.defers = []) {b : Frame} {cs items ops i todo} {R : Ending → World → Prop}
    {o : Oper} {ao : AOper} (ho : ops[i]? = some o) (hco : cOper P N ops o = some ao) {K : T → List O → Prop} (hs : AStep P t h ao K)
    (next : ∀ c' w' a' t' h', Adv c0 w0 H0 c' w' h' → HRel c' w' h' → Adv c w h c' w' h' → TRel N c' t' a' → a'.defers = [] → (∃ v, t' = put t ao.dst v) → K t' h' → Goes P b R (.inRegion ops todo :: items) cs a' w') :
    Goes P b R (.inRegion ops (i :: todo) :: items) cs a w := by
  obtain ⟨d, g, op⟩ := ao
  obtain ⟨hcp, hdst, hdN, hgd⟩ := cOper_spec hco
  have hdef : ∀ v, (a.put o.dst v).defers = [] := fun v => by cases o.dst <;> exact hd
  have hfin := fun v => region_finish (b := b) (a := a) (rest := todo) (k := items) ho v
  rcases hs with ⟨hg, hK⟩ | ⟨hg, hs⟩
  · have hw := guard_wanted ht hgd hg
    refine Goes.step (step_op_skip (by simp [ho, hw])) ?_
    simp only [ho, Option.bind_some]
    exact next c w _ _ h hadv hh (Adv.refl ..) (by rw [hdst]; exact ht.put d hdN (.tup _ _ _ rfl fun i h => by simp at h)) (hdef _) ⟨_, rfl⟩ hK
  · have hw := guard_wanted ht hgd hg
    have hgop := stepG_op (P := P) (b := b) (k := items) (cs := cs) (w := w) (rest := todo) ho hw
    rcases hs with ⟨v, h', hop, hK⟩ | ⟨fo, args, f, caps, Q, hoc, hf, htri, hQ⟩
    · obtain ⟨r, w', c', h1, h2, h3, h4⟩ := op_sound (P := P) hh ht hcp hop
      have ht' := ht.mono h4.m h4.ro
      rcases h2 with ⟨cv, rfl, hv⟩ | ⟨rfl, rfl⟩
      · refine Goes.step (a' := a.put o.dst cv) (k' := .inRegion ops todo :: items) (w' := w') (step_lone_go ?_) ?_
        · rw [hgop, ← hfin]; simp [stepG.apply, h1]
        · exact next c' w' _ _ h' (hadv.trans h0 h4) h3 h4 (by rw [hdst]; exact ht'.put d hdN hv) (hdef _) ⟨_, rfl⟩ hK
      · refine Goes.step (a' := a.put o.dst undef) (k' := .inRegion ops todo :: items) (w' := w') (step_lone_go ?_) ?_
        · rw [hgop, ← hfin]; simp [stepG.apply, h1]
        · exact next c' w' _ _ h' (hadv.trans h0 h4) h3 h4 (by rw [hdst]; exact ht'.put d hdN (.any ..)) (hdef _) ⟨_, rfl⟩ hK
    · simp only at hoc
      subst hoc
      obtain ⟨odst, oop, ty, pos, after, guard⟩ := o
      simp only at hcp hdst
      obtain ⟨fo', args', ats, rfl, hfo, hargs⟩ := cOp_call hcp
      obtain ⟨⟨fn, hfn, hbody, hname⟩, hcalls⟩ := htri
      have r1 := opd_rel ht hfo
      rw [hf] at r1
      obtain ⟨cs1, hcs1, hcaps⟩ := r1.fn_inv
      have r2 := opds_rel ht hargs
      have hcall := hcalls c w _ hh (r2.append hcaps)
      have hexec : (execOp a.eval ⟨odst, .call { callee := .value fo', args := args', argTypes := ats }, ty, pos, after, guard⟩).run P w = .ok (.enter f (args'.map a.eval ++ cs1)) w := by
        have hn1 : ¬ fn.name = "runtime.NumGoroutine" := by simpa using hname
        have hn2 : ¬ fn.body = none := by intro h; simp [h] at hbody
        simp [execOp, resolve, Sem.run_bind, hcs1, Deferred.ofValue, invoke, callFunc, hfn, hn1, hn2]
      obtain ⟨e, w2', fr, hR, hcomes, hfrf, hleave⟩ := hcall (b.at a (.inRegion ops (i :: todo) :: items) :: cs)
      obtain ⟨v, H', c', cv, hQv, rfl, hv, hh', hadv'⟩ := hR
      have henter : Go.step P (lone (b.at a (.inRegion ops (i :: todo) :: items)) cs w) = .next (lone (Frame.enter P f (args'.map a.eval ++ cs1) .normal) (b.at a (.inRegion ops (i :: todo) :: items) :: cs) w) :=
        step_lone_go (by rw [hgop]; simp [stepG.apply, hexec, Frame.at])
      refine Goes.steps (a' := a.put odst cv) (k' := .inRegion ops todo :: items) (w' := w2') (.head henter (hcomes.trans (.one ?_))) ?_
      · rw [← hfin cv]; exact step_leave_returned hleave
      · exact next c' w2' _ _ H' (hadv.trans h0 hadv') hh' hadv' (by rw [hdst]; exact (ht.mono hadv'.m hadv'.ro).put d hdN hv) (hdef _) ⟨_, rfl⟩ (hQ v H' hQv)

/-! ### an open order -/

/-- an operation of a drawn region: its number, what must lie behind it, itself -/
structure DOp where
  i : Nat
  deps : List Nat
  op : AOper

/-- the order that is still to come may be so -/
def Sched (ops : Array Oper) : List Nat → List Nat → Prop
  | done, [] => ∀ j, j < ops.size → j ∈ done
  | done, j :: todo => j ∉ done ∧ (∃ o, ops[j]? = some o ∧ ∀ e ∈ o.after, Region.binds .any e = true → e.on ∈ done) ∧ Sched ops (j :: done) todo

theorem Sched.mem {ops : Array Oper} : ∀ {done todo : List Nat}, Sched ops done todo → ∀ j, j < ops.size → j ∈ done ∨ j ∈ todo
  | done, [], h, j, hj => .inl (h j hj)
  | done, x :: todo, h, j, hj => by
    rcases h.2.2.mem j hj with h1 | h1
    · rcases List.mem_cons.1 h1 with rfl | h1
      · exact .inr List.mem_cons_self
      · exact .inl h1
    · exact .inr (List.mem_cons_of_mem _ h1)

/-- an order that the model may draw is one -/
theorem sched_linearise {ops : Array Oper} (hb : ∀ (i : Nat) (o : Oper), ops[i]? = some o → ∀ e ∈ o.after, Region.binds .any e = true → e.on < i) : ∀ (fuel t : Nat) (listed : Array Bool) (done : List Nat),
    listed.size = ops.size → (∀ j, j < ops.size → (listed.getD j false = true ↔ j ∈ done)) → ((List.range ops.size).filter (fun j => !listed.getD j false)).length ≤ fuel →
    Sched ops done (Region.linearise.go .any ops fuel t listed []) := by
  intro fuel
  induction fuel with
  | zero =>
    intro t listed done hsz hl hf
    simp only [Region.linearise.go, List.reverse_nil, Sched]
    intro j hj
    refine (hl j hj).1 ?_
    have hnil : (List.range ops.size).filter (fun j => !listed.getD j false) = [] := List.eq_nil_of_length_eq_zero (by omega)
    have := List.filter_eq_nil_iff.1 hnil j (List.mem_range.2 hj)
    simpa using this
  | succ fuel ih =>
    intro t listed done hsz hl hf
    simp only [Region.linearise.go]
    change Sched ops done (match (Region.ready .any ops listed)[t % (Region.ready .any ops listed).length]? with
      | some i => Region.linearise.go .any ops fuel (t / (Region.ready .any ops listed).length) (listed.setIfInBounds i true) [i]
      | none => [].reverse)
    cases hi : (Region.ready .any ops listed)[t % (Region.ready .any ops listed).length]? with
    | none =>
      -- nothing is ready: all are listed
      have hnil : Region.ready .any ops listed = [] := by
        cases hr : Region.ready .any ops listed with
        | nil => rfl
        | cons x xs =>
          rw [hr] at hi
          have hlt : t % (x :: xs).length < (x :: xs).length := Nat.mod_lt _ (by simp)
          rw [List.getElem?_eq_getElem hlt] at hi
          cases hi
      simp only [List.reverse_nil, Sched]
      have key : ∀ n j, j < n → j < ops.size → j ∈ done := by
        intro n
        induction n with
        | zero => intro j h; omega
        | succ n ihn =>
          intro j hjn hj
          rcases Nat.lt_or_ge j n with h1 | h1
          · exact ihn j h1 hj
          · have : j = n := by omega
            subst this
            refine Classical.byContradiction fun hno => ?_
            have hmem : j ∈ Region.ready .any ops listed := by
              rw [mem_ready]
              have hlj : listed.getD j false = false := by
                cases hx : listed.getD j false with
                | false => rfl
                | true => exact absurd ((hl j hj).1 hx) hno
              refine ⟨?_, ops[j], Array.getElem?_eq_getElem hj, fun e he hbe => ?_⟩
              · rw [Array.getD_eq_getD_getElem?, Array.getElem?_eq_getElem (by omega)] at hlj ⊢
                simpa using hlj
              · have hlt := hb j _ (Array.getElem?_eq_getElem hj) e he hbe
                exact (hl e.on (by omega)).2 (ihn e.on hlt (by omega))
            rw [hnil] at hmem
            cases hmem
      exact fun j hj => key (j + 1) j (by omega) hj
    | some i =>
      simp only []
      rw [linearise_go_acc, List.reverse_singleton, List.singleton_append]
      have hir := List.mem_of_getElem? hi
      obtain ⟨h1, o, ho, h2⟩ := mem_ready.1 hir
      have hilt : i < ops.size := (Array.getElem?_eq_some_iff.1 ho).1
      have hlf : listed.getD i false = false := by
        rw [Array.getD_eq_getD_getElem?, Array.getElem?_eq_getElem (by omega)] at h1 ⊢
        simpa using h1
      refine ⟨fun hd => ?_, ⟨o, ho, fun e he hbe => ?_⟩, ?_⟩
      · rw [(hl i hilt).2 hd] at hlf; cases hlf
      · have hlt := hb i o ho e he hbe
        exact (hl e.on (by omega)).1 (h2 e he hbe)
      · refine ih _ _ (i :: done) (by simpa using hsz) (fun j hj => ?_) ?_
        · by_cases e : i = j
          · subst e; simp [hsz, hilt]
          · rw [getD_set_ne false e, hl j hj]
            simp [Ne.symm e]
        · have hsub : ((List.range ops.size).filter (fun j => !(listed.setIfInBounds i true).getD j false)).length < ((List.range ops.size).filter (fun j => !listed.getD j false)).length := by
            have h3 : (List.range ops.size).filter (fun j => !(listed.setIfInBounds i true).getD j false) = ((List.range ops.size).filter (fun j => !listed.getD j false)).filter (fun j => j != i) := by
              rw [List.filter_filter]
              refine List.filter_congr fun j hj => ?_
              by_cases e : i = j
              · subst e; simp [hsz, hilt]
              · rw [getD_set_ne false e]
                simp [Ne.symm e]
            rw [h3]
            have hmem : i ∈ (List.range ops.size).filter (fun j => !listed.getD j false) := by
              rw [List.mem_filter]; exact ⟨List.mem_range.2 hilt, by simp [hlf]⟩
            exact List.length_filter_lt_length_iff_exists.2 ⟨i, hmem, by simp⟩
          omega

end Sx
